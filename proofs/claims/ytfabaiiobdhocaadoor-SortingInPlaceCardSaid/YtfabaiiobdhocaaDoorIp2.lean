/- Texts put together: Fk, Fl, Fm, Fn, Fo, Fp, Fq, Fr, Fs. -/
import Derived.Test.YtfabaiiobdhocaaDoorIp1
import Derived.Laws.BytesArg
import Derived.Laws.Externs
import Derived.CallsIn
import Derived.OrdersIn
namespace Go.Proofs.Rf
open Go Go.RowKit
structure z0c (P : Program) (f : Nat) (co : z0G) : Prop where
 fn : ∃ fn, P.funcs[f]? = some fn ∧ (fn.name == "runtime.NumGoroutine") = false ∧ fn.body.isNone = false
 run : ∀ (X keep : Nat → Prop) (w0 w : World) (ι : Nat → Option Value) (C : Nat → Blk) (nb : Nat) (args : List AV) (vs : List Value) (e : Eff), HRel X keep w0 ι C w → RelL w (okb X w ι C) ι args vs →
  co args C nb Eff some = some e → (∀ k, nb ≤ k → k < nb + e.new.length → ι k = none) → Calls P f vs.toArray w fun en w' => ∃ v, en = .returned v ∧ Out X keep w0 ι C w nb e v w'
 nat : ∀ (args : List AV) (C : Nat → Blk) (nb : Nat) (R : Type) (K : Eff → Option R), co args C nb R K = (co args C nb Eff some).bind K
structure ExtOK (P : Program) (f : Nat) (co : z0G) : Prop where
 run : ∀ (X keep : Nat → Prop) (w0 w : World) (ι : Nat → Option Value) (C : Nat → Blk) (nb : Nat) (args : List AV) (vs : List Value) (e : Eff), HRel X keep w0 ι C w → RelL w (okb X w ι C) ι args vs →
  co args C nb Eff some = some e → (∀ k, nb ≤ k → k < nb + e.new.length → ι k = none) → ∃ v w', (callFunc f vs.toArray).run P w = .ok (.value v) w' ∧ Out X keep w0 ι C w nb e v w'
 nat : ∀ (args : List AV) (C : Nat → Blk) (nb : Nat) (R : Type) (K : Eff → Option R), co args C nb R K = (co args C nb Eff some).bind K
def AnyOK (P : Program) (f : Nat) (co : z0G) : Prop := z0c P f co ∨ ExtOK P f co
instance {P : Program} {f : Nat} {co : z0G} : Coe (z0c P f co) (AnyOK P f co) := ⟨.inl⟩
theorem AnyOK.nat {P : Program} {f : Nat} {co : z0G} (h : AnyOK P f co) (args : List AV) (C : Nat → Blk) (nb : Nat) (R : Type) (K : Eff → Option R) : co args C nb R K = (co args C nb Eff some).bind K := by
 rcases h with h | h
 ·exact h.nat ..
 ·exact h.nat ..
def z0R (P : Program) (Δ : Nat → Option z0G) : Prop := ∀ f co, Δ f = some co → AnyOK P f co
def sameO : z0G := fun args _ _ _ K => match args with
 | [x] => K ⟨x, [], []⟩
 | _ => none
theorem same_ok {P : Program} {f : Nat} {fn : Func} (hf : P.funcs[f]? = some fn) (hname : (fn.name == "runtime.NumGoroutine") = false)
  (hb : fn.body.isNone = true) (hn : Extern.findNext fn = none) (he : Extern.find fn = some Extern.AbiNoEscape.same) : ExtOK P f sameO where
 run := by
  intro X keep w0 w ι C nb args vs e h hr hc _
  unfold sameO at hc
  split at hc
  ·rename_i x
   injection hc with hc
   subst hc
   obtain ⟨v, vr, e1, e2, e3⟩ := z0a.1 hr
   rw [z0b.1 e3] at e1
   subst e1
   exact ⟨v, w, by rw [run_callFunc_extern hf hname hb hn he]; rfl, Out.pure h e2⟩
  ·cases hc
 nat := by
  intro args C nb R K
  unfold sameO
  split <;> rfl
section
variable {X keep : Nat → Prop} {w0 w : World} {ι : Nat → Option Value} {C : Nat → Blk} {P : Program} {TT : Tab} {Δ : Nat → Option z0G}
theorem z1S {ok : Nat → Prop} {T : Nat → AV} {a : Act} (hT : ∀ t, RelV w ok ι (T t) (a.tmps.getD t undef)) : ∀ l : List Operand, RelL w ok ι (l.map (ev T)) (l.map a.eval)
 | [] => z0b.2 rfl
 | x :: r => z0a.2 ⟨_, _, rfl, z6e hT x, z1S hT r⟩
theorem df_ne {a : AV} (h : a.df = true) : a ≠ .un ∧ a ≠ .ud := by constructor <;> rintro rfl <;> simp [AV.df] at h
theorem conv_bytes {ok : Nat → Prop} {src dst e : Nat} {xs : List Int} {vx : Value} (hx : Rz w ok (.sl (.int .u8)) xs [vx]) (hs : P.underlying src = some (.slice e)) (he : P.underlying e = some (.int .u8)) (hd : P.underlying dst = some .string) :
  (convert src dst vx).run P w = .ok (.string ⟨(xs.map fun n : Int => UInt8.ofNat n.toNat).toArray⟩) w := by
 obtain ⟨A, c, e1, e2, e3⟩ := hx
 have e1 : vx = .slice A xs.length c := by injection e1
 subst e1
 rw [run_convert_bytes_string w src dst e A xs.length c hs he hd]
 cases A with
 | none =>
  have hl : xs = [] := by
   rcases Nat.eq_zero_or_pos xs.length with h | h
   ·exact List.length_eq_zero_iff.1 h
   ·obtain ⟨g, o, cs, q, _⟩ := e3 h
    cases q
  subst hl
  simp [Conv.bytesToString]
  rfl
 | some a =>
  have hl : (loadCells a xs.length).run P w = .ok (xs.map (Value.int .u8)).toArray w := by
   rcases Nat.eq_zero_or_pos xs.length with h | h
   ·have h := List.length_eq_zero_iff.1 h
    subst h
    have := run_loadCells_list (P := P) w a [] (fun j v hj => by simp at hj)
    simpa using this
   ·obtain ⟨g, o, cs, q1, q2, q3, q4⟩ := e3 h
    injection q1 with q1
    subst q1
    have hc := z6x q3
    have := run_loadCells_list (P := P) w ⟨g, o, none⟩ cs (fun j v hj => by rw [z0F]; exact q4 j v hj)
    rw [hc] at this
    simpa using this
  rw [run_bytesToString w a xs.length c xs hl, foldl_push_bytes]
  simp [ByteArray.empty, ByteArray.emptyWithCapacity]
  rfl
theorem next_op (h : HRel X keep w0 ι C w) {nb b pos : Nat} {s : List UInt8} {vx : Value} {ty : TypeId} (hx : RelV w (okb X w ι C) ι (.pt b 0) vx) (hb : C b = .it s pos) :
  (pos < s.length → ∃ v w', (Instr.next vx true ty).run P w = .ok v w' ∧
   Out X keep w0 ι C w nb ⟨.tp [.d .bool true, .d (.int .i64) (pos : Int), .d (.int .i32) ((Utf8.decode ⟨s.toArray⟩ pos).1 : Int)], [(b, .it s (pos + (Utf8.decode ⟨s.toArray⟩ pos).2))], []⟩ v w') ∧
  (¬ pos < s.length → ∃ v, (Instr.next vx true ty).run P w = .ok v w ∧ RelV w (okb X w ι C) ι (.tp [.d .bool false]) v) := by
 have hB := h.bl b
 rw [hb] at hB
 obtain ⟨g, h1, h2⟩ := hB
 simp only [RelV] at hx
 obtain ⟨g', h3, h4⟩ := hx
 rw [h1] at h3
 injection h3 with h3
 injection h3 with h3
 injection h3 with h3
 injection h3 with h3
 subst h3; subst h4
 have hgo : (getObj g).run P w = .ok (.stringIter ⟨s.toArray⟩ pos) w := by simp [getObj, Sem.run, h2]
 refine ⟨fun hp => ?_, fun hp => ?_⟩
 ·have hset : (setObj g (.stringIter ⟨s.toArray⟩ (pos + (Utf8.decode ⟨s.toArray⟩ pos).2))).run P w = .ok () { w with heap := w.heap.setIfInBounds g (.stringIter ⟨s.toArray⟩ (pos + (Utf8.decode ⟨s.toArray⟩ pos).2)) } := by
   simp [setObj, Sem.run, h2]
  have hp' : pos < (⟨s.toArray⟩ : ByteArray).size := by rw [z2R]; exact hp
  refine ⟨.tuple #[.bool true, goInt pos, .int .i32 (Utf8.decode ⟨s.toArray⟩ pos).1], { w with heap := w.heap.setIfInBounds g (.stringIter ⟨s.toArray⟩ (pos + (Utf8.decode ⟨s.toArray⟩ pos).2)) }, ?_, ?_⟩
  ·simp only [Instr.next, Sem.run_bind, hgo, Result.andThen_ok, hp', if_true, hset, Sem.run_pure]
  ·have hlt : g < w.heap.size := (Array.getElem?_eq_some_iff.1 h2).1
   have hbk : bk ι C b = [g] := by unfold bk; rw [hb, h1]; try rfl
   have hbk' : bk ι (setC C b (.it s (pos + (Utf8.decode ⟨s.toArray⟩ pos).2))) b = [g] := by unfold bk; rw [z0e, h1]; try rfl
   have := h.step (C' := setC C b (.it s (pos + (Utf8.decode ⟨s.toArray⟩ pos).2))) (ι' := ι) (w' := { w with heap := w.heap.setIfInBounds g (.stringIter ⟨s.toArray⟩ (pos + (Utf8.decode ⟨s.toArray⟩ pos).2)) }) (fun j => j = b) rfl rfl rfl (by simp)
    (fun j hj => z0f hj) (fun _ _ q => q) (fun _ _ => rfl) (fun k b' hk q => by
     subst hk
     rw [hbk'] at q
     exact .inr ⟨_, rfl, by rw [hbk]; exact q⟩) (fun k k' b' hk hk' _ _ => hk.trans hk'.symm) (fun b' hb' hk => by
      have hne : g ≠ b' := by rintro rfl; exact hk b rfl (by rw [hbk]; exact List.mem_singleton_self _)
      simp [hne]) (fun hext k hk => by
     subst hk
     rw [z0e]
     exact ⟨g, h1, by simp [hlt]⟩)
   refine ⟨ι, this.1, this.2, ?_, fun _ _ => rfl⟩
   simp only [RelV]
   exact ⟨[.bool true, goInt pos, .int .i32 (Utf8.decode ⟨s.toArray⟩ pos).1], rfl, z0a.2 ⟨_, _, rfl, z0q.2 rfl, z0a.2 ⟨_, _, rfl, z0m.2 rfl, z0a.2 ⟨_, _, rfl, z0m.2 rfl, z0b.2 rfl⟩⟩⟩⟩
 ·have hp' : ¬ pos < (⟨s.toArray⟩ : ByteArray).size := by rw [z2R]; exact hp
  refine ⟨.tuple #[.bool false], ?_, ?_⟩
  ·simp only [Instr.next, Sem.run_bind, hgo, Result.andThen_ok, hp', if_false, Sem.run_pure]
  ·simp only [RelV]
   exact ⟨[.bool false], rfl, z0a.2 ⟨_, _, rfl, z0q.2 rfl, z0b.2 rfl⟩⟩
theorem lenOf_sound (h : HRel X keep w0 ι C w) {x : AV} {vx : Value} (hx : RelV w (okb X w ι C) ι x vx) {n : Int} (hl : lenOf C x = some n) : ∃ (A : Option Addr) (m c : Nat), vx = .slice A m c ∧ n = m := by
 unfold lenOf at hl
 split at hl
 ·injection hl with hl
  subst hl
  simp only [RelV] at hx
  obtain ⟨A, c, e, _⟩ := hx
  injection e with e _
  exact ⟨A, _, c, e, rfl⟩
 ·injection hl with hl
  subst hl
  simp only [RelV] at hx
  exact ⟨none, 0, 0, hx, rfl⟩
 ·split at hl
  ·rename_i b t e xs rw hb
   injection hl with hl
   subst hl
   obtain ⟨A, c, e1, _⟩ := z1I h hb
   simp only [RelV] at hx
   rw [e1] at hx
   injection hx.1 with q
   exact ⟨A, _, c, q.symm, rfl⟩
  ·cases hl
 ·injection hl with hl
  subst hl
  simp only [RelV] at hx
  obtain ⟨A, n, c, A', c', _, _, e, _⟩ := hx
  exact ⟨A', _, c', e, rfl⟩
 ·split at hl
  ·rename_i b t it e ie xs hb
   injection hl with hl
   subst hl
   obtain ⟨arr, u, vs, cs, k1, k2, k3, _, _⟩ := z1H h hb
   simp only [RelV] at hx
   obtain ⟨arr', x1, x2, A, n, c, x3⟩ := hx
   rw [k1] at x1
   injection x1 with x1
   injection x1 with x1
   subst x1
   rw [k2] at x2
   injection x2 with x2
   subst x2
   subst x3
   refine ⟨A, _, c, rfl, ?_⟩
   rcases k3.2 with ⟨q1, q2⟩ | ⟨_, _, _, q1, _⟩
   ·injection q1 with _ q1; rw [q1, q2]
   ·injection q1 with _ q1; rw [q1]
  ·cases hl
 ·injection hl with hl
  subst hl
  simp only [RelV] at hx
  obtain ⟨A', c', e, _⟩ := hx
  exact ⟨A', _, c', e, rfl⟩
 ·cases hl
theorem z4T (hP : z0n P TT) : ∀ (fl : List Field), (fl.map (fun f => (f.offset, f.type))).all (fun p => (TT p.2).isSome) = true →
  fl.mapM (fun f => (P.info? f.type).map fun i => (f.offset, i.size)) = some (fl.map fun f => (f.offset, z0l TT f.type))
 | [], _ => rfl
 | f :: r, h => by
  simp only [List.map_cons, List.all_cons, Bool.and_eq_true] at h
  obtain ⟨td, htd⟩ := Option.isSome_iff_exists.1 h.1
  obtain ⟨i, z, i1, i2, _⟩ := (hP f.type td htd).ex
  have ih := z4T hP r h.2
  simp [List.mapM_cons, i1, i2, ih, z0l, htd]
theorem build_st (hP : z0n P TT) {ok : Nat → Prop} {tt : Nat} {td : TD} (htd : TT tt = some td) {fs : List (Nat × Nat)} (hk : td.k = .st fs) {T : Nat → AV} {a : Act} (hT : ∀ t, RelV w ok ι (T t) (a.tmps.getD t undef)) {parts : Array (Nat × Operand)}
  (hc : (fs.all (fun p => (TT p.2).isSome) && parts.toList.all (fun p => (ev T p.2).df)) = true) {cs : List AV}
  (hf : fillC (placeSt TT fs) td.zero (parts.toList.map fun p => (p.1, ev T p.2)) = some cs) :
  ∃ v, (Instr.build tt (parts.map fun (i, x) => (i, a.eval x))).run P w = .ok v w ∧ RelV w ok ι (.ag cs) v := by
 rw [Bool.and_eq_true] at hc
 obtain ⟨c1, c2⟩ := hc
 obtain ⟨i, z, i1, i2, i3, i4, i5, i6, i7⟩ := (hP tt td htd).ex
 have hu := (hP tt td htd).und
 rw [hk] at hu
 obtain ⟨fields, hu, hfs⟩ := hu
 have hpl : placeSt TT fs = fun i => (fields.toList.map fun f => (f.offset, z0l TT f.type)).toArray[i]? := by
  funext i
  rw [← hfs]
  simp only [placeSt, List.getElem?_map, List.getElem?_toArray]
  cases fields.toList[i]? <;> rfl
 rw [hpl] at hf
 obtain ⟨us', r1, r2⟩ := z4D hT parts.toList td.zero z.cells cs (i5 _ _ _) (fun p hp => df_ne (List.all_eq_true.1 c2 p hp)) hf
 refine ⟨.agg us', run_build w tt _ us' ?_, ?_⟩
 ·have hp := z4T hP fields.toList (by rw [hfs]; exact c1)
  have hparts : (parts.map fun (i, x) => (i, a.eval x)).toList = parts.toList.map fun p => (p.1, a.eval p.2) := by rw [Array.toList_map]
  simp only [Program.built, i1, hu, i4, hp, hparts, r1]
 ·simp only [RelV]
  exact ⟨us'.toList, by simp, r2⟩
theorem build_ar (hP : z0n P TT) {ok : Nat → Prop} {tt m e : Nat} {td : TD} (htd : TT tt = some td) (hk : td.k = .ar m e) {T : Nat → AV} {a : Act} (hT : ∀ t, RelV w ok ι (T t) (a.tmps.getD t undef)) {parts : Array (Nat × Operand)}
  (hc : ((TT e).isSome && parts.toList.all (fun p => (ev T p.2).df)) = true) {cs : List AV}
  (hf : fillC (fun i => some (i * z0l TT e, z0l TT e)) td.zero (parts.toList.map fun p => (p.1, ev T p.2)) = some cs) :
  ∃ v, (Instr.build tt (parts.map fun (i, x) => (i, a.eval x))).run P w = .ok v w ∧ RelV w ok ι (.ag cs) v := by
 rw [Bool.and_eq_true] at hc
 obtain ⟨c1, c2⟩ := hc
 obtain ⟨te, hte⟩ := Option.isSome_iff_exists.1 c1
 obtain ⟨i, z, i1, i2, i3, i4, i5, i6, i7⟩ := (hP tt td htd).ex
 obtain ⟨ie, ze, j1, j2, _⟩ := (hP e te hte).ex
 have hu := (hP tt td htd).und
 rw [hk] at hu
 have hu : P.underlying tt = some (.array m e) := hu
 obtain ⟨us', r1, r2⟩ := z4D hT parts.toList td.zero z.cells cs (i5 _ _ _) (fun p hp => df_ne (List.all_eq_true.1 c2 p hp)) hf
 refine ⟨.agg us', run_build w tt _ us' ?_, ?_⟩
 ·have hparts : (parts.map fun (i, x) => (i, a.eval x)).toList = parts.toList.map fun p => (p.1, a.eval p.2) := by rw [Array.toList_map]
  rw [show z0l TT e = ie.size by simp [z0l, hte, j2]] at r1
  simp only [Program.built, i1, hu, i4, j1, hparts, r1]
 ·simp only [RelV]
  exact ⟨us'.toList, by simp, r2⟩
theorem isSlT_sound (hP : z0n P TT) {tt : Nat} : isSlT TT tt = true → ∃ e, P.underlying tt = some (.slice e) := by
 intro h
 unfold isSlT at h
 split at h
 ·rename_i td htd
  split at h
  ·rename_i e hk
   have := (hP tt td htd).und
   rw [hk] at this
   exact ⟨e, this⟩
  ·cases h
 ·cases h
theorem bin_nat {R : Type} (bt st : Bool) (op : BinOp) (a b : AV) (K : AV → Option R) : bin bt st op a b K = (bin bt st op a b some).bind K := by
 unfold bin
 repeat' split
 all_goals rfl
theorem uny_nat {R : Type} (op : UnOp) (a : AV) (K : AV → Option R) : uny op a K = (uny op a some).bind K := by
 unfold uny
 repeat' split
 all_goals rfl
theorem z1Y {R : Type} (n l h : Int) (sub : AV) (K : AV → Option R) : z1x n l h sub K = (z1x n l h sub some).bind K := by
 unfold z1x
 repeat' split
 all_goals rfl
theorem z1y {R : Type} (n : Int) (lo hi : Option AV) (cut : Int → Int → AV) (full : Int → AV) (all : AV) (K : AV → Option R) : sliceAt n lo hi cut full all K = (sliceAt n lo hi cut full all some).bind K := by
 unfold sliceAt
 split
 ·rfl
 ·exact z1Y ..
 ·exact z1Y ..
 ·exact z1Y ..
 ·rfl
theorem z3F {R : Type} (tt : Nat) (C : Nat → Blk) (v : AV) (lo hi : Option AV) (K : AV → Option R) : sliceOp TT tt C v lo hi K = (sliceOp TT tt C v lo hi some).bind K := by
 unfold sliceOp
 split
 ·split
  ·exact z1y ..
  ·split
   ·exact z1y ..
   ·rfl
  ·split
   ·split
    ·exact z1y ..
    ·rfl
   ·rfl
  ·split
   ·exact z1y ..
   ·rfl
  ·split
   ·exact z1y ..
   ·rfl
  ·rfl
 ·rfl
theorem z4v {R : Type} (tt : Nat) (x : AV) (lo hi : Option AV) (mx : AV) (K : AV → Option R) : slice3 TT tt x lo hi mx K = (slice3 TT tt x lo hi mx some).bind K := by
 unfold slice3
 split
 ·split
  ·split
   ·split
    ·repeat' split
     all_goals rfl
    ·exact z1Y ..
    ·rfl
   ·rfl
  ·rfl
 ·split
  ·split
   ·split
    ·repeat' split
     all_goals rfl
    ·exact z1Y ..
    ·rfl
   ·rfl
  ·rfl
 ·rfl
theorem nestB_new {C : Nat → Blk} {nb tt len : Nat} {ps : List (Nat × AV)} {e : Eff} (h : nestB TT C nb tt len ps = some e) : e.new.length = 1 := by
 unfold nestB at h
 repeat' split at h
 all_goals first | cases h | skip
 all_goals rfl
theorem nestA_new {C : Nat → Blk} {nb tt tt' n : Nat} {x y : AV} {e : Eff} (h : nestA TT C nb tt tt' x y = some (n, e)) : e.new.length = 1 := by
 unfold nestA at h
 repeat' split at h
 all_goals first | cases h | skip
 all_goals rfl
theorem z2Q {R : Type} (tt : Nat) (C : Nat → Blk) (b : Nat) (lo hi : Option AV) (K : AV → Option R) : sliceArr TT tt C b lo hi K = (sliceArr TT tt C b lo hi some).bind K := by
 unfold sliceArr
 split
 ·split
  ·split
   ·exact z1y ..
   ·rfl
  ·rfl
 ·rfl
theorem z6m {R : Type} (C : Nat → Blk) (m e b : Nat) (n : Int) (K : AV → Option R) : arrAt TT C m e b n K = (arrAt TT C m e b n some).bind K := by
 unfold arrAt
 repeat' split
 all_goals rfl
theorem z7r (hΔ : z0R P Δ) {R : Type} (args : List AV) (C : Nat → Blk) (nb : Nat) (x : Int) (K : Eff → Option R) : ∀ l, amongF Δ args C nb x K l = (amongF Δ args C nb x some l).bind K
 | [] => rfl
 | g :: r => by
  simp only [amongF]
  split
  ·split
   ·rename_i co hco
    exact (hΔ _ co hco).nat ..
   ·rfl
  ·exact z7r hΔ args C nb x K r
theorem z6n {args : List AV} {C : Nat → Blk} {nb : Nat} {x : Int} {e : Eff} : ∀ {l : List Nat}, amongF Δ args C nb x some l = some e → ∃ (g : Nat) (co : z0G), x = ((g + 1 : Nat) : Int) ∧ Δ g = some co ∧ co args C nb Eff some = some e
 | [], h => by cases h
 | g :: r, h => by
  simp only [amongF] at h
  split at h
  ·rename_i hx
   split at h
   ·rename_i co hco
    exact ⟨g, co, hx, hco, h⟩
   ·cases h
  ·exact z6n h
theorem z5X {R : Type} (C : Nat → Blk) (e : Nat) (n : Int) (x : AV) (K : AV → Option R) : idxAV TT C e n x K = (idxAV TT C e n x some).bind K := by
 unfold idxAV
 split
 ·split
  ·repeat' split
   all_goals rfl
  ·rfl
 ·repeat' split
  all_goals rfl
 ·repeat' split
  all_goals rfl
 ·split
  ·repeat' split
   all_goals rfl
  ·rfl
 ·repeat' split
  all_goals rfl
 ·rfl
theorem z6j {R : Type} (i b o sz : Nat) (x : Int) (K : AV → Option R) : ∀ n, chain i b o sz x K n = (chain i b o sz x some n).bind K := by
 intro n
 induction n generalizing i with
 | zero => rfl
 | succ n ih =>
  simp only [chain]
  split
  ·rfl
  ·exact ih _
theorem z3K {R : Type} {TT : Tab} (tt : Nat) (C : Nat → Blk) (x y : AV) (comma : Bool) (K : AV → Option R) : mapLook TT tt C x y comma K = (mapLook TT tt C x y comma some).bind K := by
 unfold mapLook
 repeat' split
 all_goals rfl
theorem z7h {R : Type} {TT : Tab} (tt : Nat) (C : Nat → Blk) (x y z : AV) (K : Eff → Option R) : mapSet TT tt C x y z K = (mapSet TT tt C x y z some).bind K := by
 unfold mapSet
 repeat' split
 all_goals rfl
theorem mapEnt_nat {R : Type} {TT : Tab} (tt : Nat) (C : Nat → Blk) (nb : Nat) (x y : AV) (K : Eff → Option R) : mapEnt TT tt C nb x y K = (mapEnt TT tt C nb x y some).bind K := by
 unfold mapEnt
 repeat' split
 all_goals rfl
theorem entSet_nat {R : Type} {TT : Tab} (tt : Nat) (C : Nat → Blk) (x y z : AV) (K : Eff → Option R) : entSet TT tt C x y z K = (entSet TT tt C x y z some).bind K := by
 unfold entSet
 repeat' split
 all_goals rfl
theorem mapDel_nat {R : Type} {TT : Tab} (tt : Nat) (C : Nat → Blk) (x y : AV) (K : Eff → Option R) : z5T TT tt C x y K = (z5T TT tt C x y some).bind K := by
 unfold z5T
 repeat' split
 all_goals rfl
theorem z4F {R : Type} (i sz : Nat) (cs : List AV) (x : Int) (K : AV → Option R) : ∀ n, z3b i sz cs x K n = (z3b i sz cs x some n).bind K := by
 intro n
 induction n generalizing i with
 | zero => rfl
 | succ n ih =>
  simp only [z3b]
  split
  ·rfl
  ·exact ih _
theorem z4G {R : Type} (TT : Tab) (e sz : Nat) (cs : List AV) (x : Int) (K : AV → Option R) : ∀ i n, chainA TT e sz cs x K i n = (chainA TT e sz cs x some i n).bind K := by
 intro i n
 induction n generalizing i with
 | zero => rfl
 | succ n ih =>
  simp only [chainA]
  split
  ·split <;> rfl
  ·exact ih _
theorem isBoolT_sound (hP : z0n P TT) {tt : Nat} (h : isBoolT TT tt = true) : P.underlying tt = some .bool := by
 unfold isBoolT at h
 split at h
 ·rename_i td htd
  split at h
  ·rename_i hk
   have hu := (hP tt td htd).und
   rw [hk] at hu
   exact hu
  ·cases h
 ·cases h
theorem z7l (hP : z0n P TT) {tt : Nat} (h : kindOf TT tt = .str) : P.underlying tt = some .string := by
 unfold kindOf at h
 split at h
 ·rename_i td htd
  have hu := (hP tt td htd).und
  rw [h] at hu
  exact hu
 ·cases h
theorem kindOf_mp (hP : z0n P TT) {tt k e : Nat} (h : kindOf TT tt = .mp k e) : P.underlying tt = some (.map k e) := by
 unfold kindOf at h
 split at h
 ·rename_i td htd
  have hu := (hP tt td htd).und
  rw [h] at hu
  exact hu
 ·cases h
theorem z0x {s : Sem Value} {Post : Value → World → Prop} (h : ∃ v w', s.run P w = .ok v w' ∧ Post v w') : Runs P (do pure (.value (← s))) w Post := by
 obtain ⟨v, w', h1, h2⟩ := h
 exact ⟨v, w', .inl (by simp [h1]), h2⟩
theorem z5u {s : Sem Unit} {Post : Value → World → Prop} (h : ∃ w', s.run P w = .ok () w' ∧ Post undef w') : Runs P (do s; pure .skip) w Post := by
 obtain ⟨w', h1, h2⟩ := h
 exact ⟨undef, w', .inr ⟨by simp [h1], rfl⟩, h2⟩
theorem z0T {v : Value} {Post : Value → World → Prop} (h : Post v w) : Runs P (pure (.value v)) w Post := ⟨v, w, .inl rfl, h⟩
theorem z7n (hP : z0n P TT) (hΔ : z0R P Δ) (h : HRel X keep w0 ι C w) {T : Nat → AV} {a : Act} (hT : ∀ t, RelV w (okb X w ι C) ι (T t) (a.tmps.getD t undef)) {o : Oper} {nb : Nat} {e : Eff}
  (hev : evOp TT Δ o T C nb (R := Eff) some = some e) (hn : ∀ k, nb ≤ k → k < nb + e.new.length → ι k = none) {Q : Exit → Act → World → Prop} :
  o.wp P a w (fun a' w' => ∃ v, a' = a.put o.dst v ∧ Out X keep w0 ι C w nb e v w') Q := by
 unfold evOp at hev
 have hE := fun x => z6e (ok := okb X w ι C) hT x
 have hG := fun x => evG_rel h.gl hT x
 split at hev
 case h_1 x hop =>
  refine Runs.wp (Post := Out X keep w0 ι C w nb e) ?_ (fun v w' hv => ⟨v, rfl, hv⟩)
  unfold execOp
  rw [hop]
  exact z0T (Out.z0k h hev (hE x))
 case h_2 x hop =>
  refine Runs.wp (Post := Out X keep w0 ι C w nb e) ?_ (fun v w' hv => ⟨v, rfl, hv⟩)
  unfold execOp
  rw [hop]
  exact z0T (Out.z0k h hev (hE x))
 case h_3 c x y hop =>
  refine Runs.wp (Post := Out X keep w0 ι C w nb e) ?_ (fun v w' hv => ⟨v, rfl, hv⟩)
  unfold execOp
  rw [hop]
  split at hev
  ·rename_i cb hc
   have h1 := hE c
   rw [hc, z0q] at h1
   refine ⟨if cb = true then a.eval x else a.eval y, w, .inl (by simp [h1, asBool]), ?_⟩
   split at hev
   ·rename_i bx by' hx hy
    have h2 := hE x
    have h3 := hE y
    rw [hx, z0q] at h2
    rw [hy, z0q] at h3
    exact Out.z0k h hev (z0q.2 (by cases cb <;> simp [h2, h3]))
   ·cases cb
    ·exact Out.z0k h (by simpa using hev) (by simpa using hE y)
    ·exact Out.z0k h (by simpa using hev) (by simpa using hE x)
  ·cases hev
 case h_4 e0 hop =>
  refine Runs.wp (Post := Out X keep w0 ι C w nb e) ?_ (fun v w' hv => ⟨v, rfl, hv⟩)
  unfold execOp
  rw [hop]
  split at hev
  ·rename_i td htd
   split at hev
   ·rename_i n k ha
    injection hev with hev
    subst hev
    exact z0x (allocArr_op hP h (hn nb (Nat.le_refl _) (by simp)) htd ha)
   ·injection hev with hev
    subst hev
    exact z0x (alloc_op hP h (hn nb (Nat.le_refl _) (by simp)) htd)
  ·cases hev
 case h_5 e0 x hop =>
  refine Runs.wp (Post := Out X keep w0 ι C w nb e) ?_ (fun v w' hv => ⟨v, rfl, hv⟩)
  unfold execOp
  rw [hop]
  split at hev
  ·split at hev
   ·rename_i ta tb ht cs hx
    have h1 := hE x
    rw [hx] at h1
    split at hev
    ·rename_i t f hnd
     injection hev with hev
     subst hev
     exact z0x (node_op h h1 hnd)
    ·cases hev
   ·cases hev
  split at hev
  ·cases hev
  ·cases hev
  ·rename_i n1 n2
   injection hev with hev
   subst hev
   exact z0x (box_op h (hn nb (Nat.le_refl _) (by simp)) (hE x) n1 n2)
 case h_6 tt parts hop =>
  refine Runs.wp (Post := Out X keep w0 ι C w nb e) ?_ (fun v w' hv => ⟨v, rfl, hv⟩)
  unfold execOp
  rw [hop]
  split at hev
  ·rename_i td htd
   split at hev
   ·rename_i fs hk
    split at hev
    ·rename_i hc
     split at hev
     ·rename_i cs hf
      obtain ⟨v, r1, r2⟩ := build_st hP htd hk hT hc hf
      exact z0x ⟨v, w, r1, Out.z0k h hev r2⟩
     ·cases hev
    ·cases hev
   ·rename_i m e1 hk
    split at hev
    ·rename_i hc
     split at hev
     ·rename_i cs hf
      obtain ⟨v, r1, r2⟩ := build_ar hP htd hk hT hc hf
      exact z0x ⟨v, w, r1, Out.z0k h hev r2⟩
     ·cases hev
    ·cases hev
   ·cases hev
  ·cases hev
 case h_7 tt len parts hop =>
  refine Runs.wp (Post := Out X keep w0 ι C w nb e) ?_ (fun v w' hv => ⟨v, rfl, hv⟩)
  unfold execOp
  rw [hop]
  split at hev
  ·rename_i e2 he2
   injection hev with hev
   subst hev
   exact z0x (nestB_op hP h (hn nb (Nat.le_refl _) (by
    rw [nestB_new he2]; exact Nat.lt_succ_self _)) hT he2)
  split at hev
  ·rename_i td htd
   split at hev
   ·rename_i e1 hk
    split at hev
    ·rename_i te hte
     split at hev
     ·rename_i ty hty
      split at hev
      ·rename_i xs f hp
       split at hev
       ·rename_i hc
        injection hev with hev
        subst hev
        exact z0x (buildSlice_op hP h (hn nb (Nat.le_refl _) (by simp)) htd hk hte hty hT hp hc)
       ·cases hev
      ·cases hev
     ·cases hev
    ·cases hev
   ·cases hev
  ·cases hev
 case h_8 tt x hop =>
  refine Runs.wp (Post := Out X keep w0 ι C w nb e) ?_ (fun v w' hv => ⟨v, rfl, hv⟩)
  unfold execOp
  rw [hop]
  split at hev
  ·rename_i r hr
   obtain ⟨v, r1, r2⟩ := load_op hP h (hG x) hr
   exact z0x ⟨v, w, r1, Out.z0k h hev r2⟩
  ·cases hev
 case h_9 tt ad x hop =>
  refine Runs.wp (Post := Out X keep w0 ι C w nb e) ?_ (fun v w' hv => ⟨v, rfl, hv⟩)
  unfold execOp
  rw [hop]
  have ha := hE ad
  generalize ev T ad = av at hev ha
  cases av
  case pt b o' =>
   simp only at hev
   split at hev
   ·rename_i cs hb
    split at hev
    ·rename_i i r hcut
     split at hev
     ·rename_i hc
      injection hev with hev
      subst hev
      exact z5u (cut_store hP h ha (hE x) hb hcut (hn nb (Nat.le_refl _) (by simp)) hc)
     ·cases hev
    ·split at hev
     ·rename_i hc
      injection hev with hev
      subst hev
      exact z5u (store_box hP h ha (hE x) hb hc)
     ·cases hev
   ·cases hev
  case pe b sz i o' =>
   simp only at hev
   split at hev
   ·rename_i t e1 xs hb
    split at hev
    ·rename_i hc
     split at hev
     ·rename_i y hp
      injection hev with hev
      subst hev
      exact z5u (store_row hP h ha (hE x) hb hc hp)
     ·cases hev
    ·cases hev
   ·cases hev
  all_goals
   simp only at hev
   split at hev
   ·rename_i e2 he2
    injection hev with hev
    subst hev
    exact z5u (nestS_op hP h ha (hE x) he2)
   ·cases hev
 case h_10 x hop =>
  refine Runs.wp (Post := Out X keep w0 ι C w nb e) ?_ (fun v w' hv => ⟨v, rfl, hv⟩)
  unfold execOp
  rw [hop]
  have hx := hE x
  split at hev
  ·rename_i b o' hb
   rw [hb] at hx
   have h0 := hx
   simp only [RelV] at h0
   obtain ⟨g, _, h2⟩ := h0
   rw [h2] at hx
   simp only [h2]
   exact z0T (Out.z0k h hev hx)
  ·rename_i b hb
   rw [hb] at hx
   have h0 := hx
   simp only [RelV] at h0
   obtain ⟨g, n, _, h2⟩ := h0
   rw [h2] at hx
   simp only [h2]
   exact z0T (Out.z0k h hev hx)
  ·rename_i b s i o' hb
   rw [hb] at hx
   have h0 := hx
   simp only [RelV] at h0
   obtain ⟨g, n, c, _, _, h2⟩ := h0
   rw [h2] at hx
   simp only [h2]
   exact z0T (Out.z0k h hev hx)
  ·rename_i cs hb
   rw [hb] at hx
   have h0 := hx
   simp only [RelV] at h0
   obtain ⟨g, o, us, h2, _⟩ := h0
   rw [h2] at hx
   simp only [h2]
   exact z0T (Out.z0k h hev hx)
  ·rename_i b s i o' hb
   rw [hb] at hx
   have h0 := hx
   simp only [RelV] at h0
   obtain ⟨arr, g, n, c, _, _, _, h2⟩ := h0
   rw [h2] at hx
   simp only [h2]
   exact z0T (Out.z0k h hev hx)
  ·rename_i b j s i o' hb
   rw [hb] at hx
   have h0 := hx
   simp only [RelV] at h0
   obtain ⟨arr, g, n, c, _, _, _, h2⟩ := h0
   rw [h2] at hx
   simp only [h2]
   exact z0T (Out.z0k h hev hx)
  ·rename_i ta tb t hb
   rw [hb] at hx
   split at hev
   ·cases hev
   ·rename_i hnil
    obtain ⟨h1, g, h2⟩ := tree_cells hx hnil
    rw [h2] at h1
    simp only [h2]
    exact z0T (Out.z0k h hev h1)
  ·rename_i f cs hb
   rw [hb] at hx
   have h0 := hx
   simp only [RelV] at h0
   obtain ⟨us, h2, _⟩ := h0
   rw [h2] at hx
   simp only [h2]
   exact z0T (Out.z0k h hev hx)
  ·rename_i f cs hb
   rw [hb] at hx
   have h0 := hx
   simp only [RelV] at h0
   obtain ⟨us, h2, _⟩ := h0
   rw [h2] at hx
   simp only [h2]
   exact z0T (Out.z0k h hev hx)
  ·cases hev
 case h_11 op tt x y yt hop =>
  refine Runs.wp (Post := Out X keep w0 ι C w nb e) ?_ (fun v w' hv => ⟨v, rfl, hv⟩)
  unfold execOp
  rw [hop]
  have key : ∀ b, eqNil TT tt op (ev T x) (ev T y) = some b → some (⟨.d .bool b, [], []⟩ : Eff) = some e → Runs P (do pure (.value (← (do eqGuard op tt x y (a.eval x) (a.eval y); binOp op tt (a.eval x) (a.eval y) : Sem Value)))) w (Out X keep w0 ι C w nb e) := by
   intro b hb he
   obtain ⟨v, r1, r2⟩ := eqNil_sound (x := x) (y := y) hP (hE x) (hE y) hb
   exact z0x ⟨v, w, r1, Out.z0k h he r2⟩
  split at hev
  ·rename_i b hb
   obtain ⟨v, r1, r2⟩ := eqIf_sound (x := x) hP (hE x) hb
   exact z0x ⟨v, w, r1, Out.z0k h hev r2⟩
  split at hev
  ·rename_i b hb
   exact key b hb hev
  rename_i hnil
  have hev : ∃ r, bin (isBoolT TT tt) (isSlT TT tt) op (ev T x) (ev T y) some = some r ∧ (some (⟨r, [], []⟩ : Eff)) = some e := by
   have hnat := bin_nat (isBoolT TT tt) (isSlT TT tt) op (ev T x) (ev T y) (fun r => some (⟨r, [], []⟩ : Eff))
   rw [hnat] at hev
   cases hb : bin (isBoolT TT tt) (isSlT TT tt) op (ev T x) (ev T y) some with
   | none => rw [hb] at hev; cases hev
   | some r => rw [hb] at hev; exact ⟨r, rfl, hev⟩
  obtain ⟨r, h1, h2⟩ := hev
  obtain ⟨v, r1, r2⟩ := bin_sound (P := P) (t := tt) (x := x) (y := y) (isBoolT_sound hP) (isSlT_sound hP) (hE x) (hE y) h1
  exact z0x ⟨v, w, r1, Out.z0k h h2 r2⟩
 case h_12 op xt x hop =>
  refine Runs.wp (Post := Out X keep w0 ι C w nb e) ?_ (fun v w' hv => ⟨v, rfl, hv⟩)
  unfold execOp
  rw [hop]
  have hev : ∃ r, uny op (ev T x) some = some r ∧ (some (⟨r, [], []⟩ : Eff)) = some e := by
   rw [uny_nat op (ev T x) (fun r => some (⟨r, [], []⟩ : Eff))] at hev
   cases hb : uny op (ev T x) some with
   | none => rw [hb] at hev; cases hev
   | some r => rw [hb] at hev; exact ⟨r, rfl, hev⟩
  obtain ⟨r, h1, h2⟩ := hev
  obtain ⟨v, r1, r2⟩ := uny_sound (P := P) (hE x) h1
  exact z0x ⟨v, w, r1, Out.z0k h h2 r2⟩
 case h_13 src dst x hop =>
  refine Runs.wp (Post := Out X keep w0 ι C w nb e) ?_ (fun v w' hv => ⟨v, rfl, hv⟩)
  unfold execOp
  rw [hop]
  split at hev
  ·rename_i ts td k n hts htd hx
   have h1 := hE x
   rw [hx, z0m] at h1
   split at hev
   ·rename_i k' hk
    have hu := (hP dst td htd).und
    rw [hk] at hu
    have hu : P.underlying dst = some (.int k') := hu
    obtain ⟨ds, hds⟩ : ∃ ds, P.underlying src = some ds := by
     have := (hP src ts hts).und
     cases hk2 : ts.k <;> rw [hk2] at this
     ·exact ⟨_, this⟩
     ·exact ⟨_, this⟩
     ·exact ⟨_, this⟩
     ·exact ⟨_, this⟩
     ·exact ⟨_, this⟩
     ·obtain ⟨fields, h3, _⟩ := this; exact ⟨_, h3⟩
     ·exact ⟨_, this⟩
     ·exact ⟨_, this⟩
     ·exact ⟨_, this⟩
     ·obtain ⟨ms, h3⟩ := this; exact ⟨_, h3⟩
     ·obtain ⟨d, h3, _⟩ := this; exact ⟨_, h3⟩
    refine z0x ⟨.int k' (k'.wrap n), w, ?_, Out.z0k h hev (z0m.2 rfl)⟩
    rw [h1]
    simp [convert, z0h hds, z0h hu, Conv.intToInt]
   ·rename_i hk
    have hu := (hP dst td htd).und
    rw [hk] at hu
    have hu : P.underlying dst = some .string := hu
    have hds : (P.underlying src).isSome = true := by
     have := (hP src ts hts).und
     cases hk2 : ts.k <;> rw [hk2] at this
     ·exact Option.isSome_iff_exists.2 ⟨_, this⟩
     ·exact Option.isSome_iff_exists.2 ⟨_, this⟩
     ·exact Option.isSome_iff_exists.2 ⟨_, this⟩
     ·exact Option.isSome_iff_exists.2 ⟨_, this⟩
     ·exact Option.isSome_iff_exists.2 ⟨_, this⟩
     ·obtain ⟨fields, h3, _⟩ := this; exact Option.isSome_iff_exists.2 ⟨_, h3⟩
     ·exact Option.isSome_iff_exists.2 ⟨_, this⟩
     ·exact Option.isSome_iff_exists.2 ⟨_, this⟩
     ·exact Option.isSome_iff_exists.2 ⟨_, this⟩
     ·obtain ⟨ms, h3⟩ := this; exact Option.isSome_iff_exists.2 ⟨_, h3⟩
     ·obtain ⟨d, h3, _⟩ := this; exact Option.isSome_iff_exists.2 ⟨_, h3⟩
    refine z0x ⟨.string (Utf8.encode n), w, ?_, Out.z0k h hev (z1g.2 (by unfold encR; simp))⟩
    rw [h1]
    exact run_convert_int_string w src dst _ n hds hu
   ·cases hev
  ·rename_i ts td s hts htd hx
   have h1 := hE x
   rw [hx, z1g] at h1
   split at hev
   ·rename_i e1 hk1 hk2
    split at hev
    ·rename_i hk3
     split at hev
     ·injection hev with hev
      subst hev
      have hu1 : P.underlying src = some .string := by
       have := (hP src ts hts).und
       rw [hk1] at this
       exact this
      have hu2 : P.underlying dst = some (.slice e1) := by
       have := (hP dst td htd).und
       rw [hk2] at this
       exact this
      have hu3 : P.underlying e1 = some (.int .u8) := by
       unfold kindOf at hk3
       cases hte : TT e1 with
       | none => rw [hte] at hk3; cases hk3
       | some te =>
        rw [hte] at hk3
        have := (hP e1 te hte).und
        rw [show te.k = .int .u8 from hk3] at this
        exact this
      obtain ⟨v, w', r1, r2⟩ := strBytes_op h (hn nb (Nat.le_refl _) (by simp)) hu1 hu2 hu3 s
      refine z0x ⟨v, w', ?_, r2⟩
      rw [h1]
      exact r1
     ·cases hev
    ·cases hev
   ·cases hev
  ·rename_i ts td hts htd _ _
   split at hev
   ·rename_i e1 hk1 hk2
    split at hev
    ·rename_i xs fz hk3 hdat
     have hx := (z0E h (z0p.refl C) (hE x) hdat).2
     have hu1 : P.underlying src = some (.slice e1) := by
      have := (hP src ts hts).und
      rw [hk1] at this
      exact this
     have hu2 : P.underlying dst = some .string := by
      have := (hP dst td htd).und
      rw [hk2] at this
      exact this
     have hu3 : P.underlying e1 = some (.int .u8) := by
      unfold kindOf at hk3
      cases hte : TT e1 with
      | none => rw [hte] at hk3; cases hk3
      | some te =>
       rw [hte] at hk3
       have := (hP e1 te hte).und
       rw [show te.k = .int .u8 from hk3] at this
       exact this
     exact z0x ⟨_, w, conv_bytes hx hu1 hu3 hu2, Out.z0k h hev (z1g.2 rfl)⟩
    ·cases hev
   ·have hev : ∃ r, unsf TT C ts.k td.k (ev T x) some = some r ∧ (some (⟨r, [], []⟩ : Eff)) = some e := by
     rw [unsf_nat C ts.k td.k (ev T x) (fun r => some (⟨r, [], []⟩ : Eff))] at hev
     cases hb : unsf TT C ts.k td.k (ev T x) some with
     | none => rw [hb] at hev; cases hev
     | some r => rw [hb] at hev; exact ⟨r, rfl, hev⟩
    obtain ⟨r, h1, h2⟩ := hev
    obtain ⟨r1, r2⟩ := unsf_op hP h hts htd (hE x) h1
    exact z0x ⟨_, w, r1, Out.z0k h h2 r2⟩
  ·cases hev
 case h_14 tt l c hop =>
  refine Runs.wp (Post := Out X keep w0 ι C w nb e) ?_ (fun v w' hv => ⟨v, rfl, hv⟩)
  unfold execOp
  rw [hop]
  split at hev
  ·rename_i td htd
   split at hev
   ·rename_i e1 hk
    split at hev
    ·rename_i te hte
     split at hev
     ·rename_i ty k x k' y hty hl hc
      have h1 := hE l
      have h2 := hE c
      rw [hl, z0m] at h1
      rw [hc, z0m] at h2
      split at hev
      ·rename_i hcc
       simp only [Bool.and_eq_true] at hcc
       obtain ⟨⟨⟨c1, c2⟩, c3⟩, c4⟩ := hcc
       obtain rfl := z2Y c1
       obtain rfl := z2Y c2
       split at hev
       ·rename_i d1
        split at hev
        ·rename_i d2
         split at hev
         ·rename_i d3
          injection hev with hev
          subst hev
          simp only [h1, h2]
          exact z0x (make_op hP h (hn nb (Nat.le_refl _) (by simp)) htd hk hte hty (Nat.le_of_ble_eq_true c3) (Nat.le_of_ble_eq_true c4) d1 d2 d3)
         ·cases hev
        ·cases hev
       ·cases hev
      ·cases hev
     ·cases hev
    ·cases hev
   ·cases hev
  ·cases hev
 case h_15 tt x lo hi hop =>
  refine Runs.wp (Post := Out X keep w0 ι C w nb e) ?_ (fun v w' hv => ⟨v, rfl, hv⟩)
  unfold execOp
  rw [hop]
  have hopt : ∀ (y : Option Operand) (z : AV), y.map (ev T) = some z → ∃ v, y.map a.eval = some v ∧ RelV w (okb X w ι C) ι z v := by
   intro y z hz
   cases y with
   | none => cases hz
   | some y => injection hz with hz; subst hz; exact ⟨_, rfl, hE y⟩
  have hopt' : ∀ (y : Option Operand), y.map (ev T) = none → y.map a.eval = none := by
   intro y hz
   cases y with
   | none => rfl
   | some y => cases hz
  split at hev
  ·rename_i b hb
   have hx := hE x
   rw [hb] at hx
   rw [z2Q tt C b (lo.map (ev T)) (hi.map (ev T)) (fun r => some (⟨r, [], []⟩ : Eff))] at hev
   cases hc : sliceArr TT tt C b (lo.map (ev T)) (hi.map (ev T)) some with
   | none => rw [hc] at hev; cases hev
   | some r =>
    rw [hc] at hev
    obtain ⟨v, r1, r2⟩ := sliceArr_op hP h hx (hopt lo) (hopt' lo) (hopt hi) (hopt' hi) hc
    exact z0x ⟨v, w, r1, Out.z0k h hev r2⟩
  have hev : ∃ r, sliceOp TT tt C (ev T x) (lo.map (ev T)) (hi.map (ev T)) some = some r ∧ (some (⟨r, [], []⟩ : Eff)) = some e := by
   rw [z3F tt C (ev T x) (lo.map (ev T)) (hi.map (ev T)) (fun r => some (⟨r, [], []⟩ : Eff))] at hev
   cases hb : sliceOp TT tt C (ev T x) (lo.map (ev T)) (hi.map (ev T)) some with
   | none => rw [hb] at hev; cases hev
   | some r => rw [hb] at hev; exact ⟨r, rfl, hev⟩
  obtain ⟨r, h1, h2⟩ := hev
  obtain ⟨v, r1, r2⟩ := slice_op hP h (hE x) (hopt lo) (hopt' lo) (hopt hi) (hopt' hi) h1
  exact z0x ⟨v, w, r1, Out.z0k h h2 r2⟩
 case h_16 tt x lo hi mx hop =>
  refine Runs.wp (Post := Out X keep w0 ι C w nb e) ?_ (fun v w' hv => ⟨v, rfl, hv⟩)
  unfold execOp
  rw [hop]
  have hopt : ∀ (y : Option Operand) z, y.map (ev T) = some z → ∃ v, y.map a.eval = some v ∧ RelV w (okb X w ι C) ι z v := by
   intro y z hz
   cases y with
   | none => cases hz
   | some y => injection hz with hz; subst hz; exact ⟨_, rfl, hE y⟩
  have hopt' : ∀ (y : Option Operand), y.map (ev T) = none → y.map a.eval = none := by
   intro y hz
   cases y with
   | none => rfl
   | some y => cases hz
  have hev : ∃ r, slice3 TT tt (ev T x) (lo.map (ev T)) (hi.map (ev T)) (ev T mx) some = some r ∧ (some (⟨r, [], []⟩ : Eff)) = some e := by
   rw [z4v tt (ev T x) (lo.map (ev T)) (hi.map (ev T)) (ev T mx) (fun r => some (⟨r, [], []⟩ : Eff))] at hev
   cases hb : slice3 TT tt (ev T x) (lo.map (ev T)) (hi.map (ev T)) (ev T mx) some with
   | none => rw [hb] at hev; cases hev
   | some r => rw [hb] at hev; exact ⟨r, rfl, hev⟩
  obtain ⟨r, h1, h2⟩ := hev
  obtain ⟨v, r1, r2⟩ := slice3_op hP (hE x) (hE mx) (hopt lo) (hopt' lo) (hopt hi) h1
  exact z0x ⟨v, w, r1, Out.z0k h h2 r2⟩
 case h_17 tt x f hop =>
  refine Runs.wp (Post := Out X keep w0 ι C w nb e) ?_ (fun v w' hv => ⟨v, rfl, hv⟩)
  unfold execOp
  rw [hop]
  split at hev
  ·rename_i off ft hf
   split at hev
   ·rename_i hs
    split at hev
    ·rename_i r hr
     obtain ⟨v, r1, r2⟩ := fieldAddr_op hP hf hs (hG x) hr
     exact z0x ⟨v, w, r1, Out.z0k h hev r2⟩
    ·cases hev
   ·cases hev
  ·cases hev
 case h_18 tt x f hop =>
  refine Runs.wp (Post := Out X keep w0 ι C w nb e) ?_ (fun v w' hv => ⟨v, rfl, hv⟩)
  unfold execOp
  rw [hop]
  split at hev
  ·rename_i off ft hf
   split at hev
   ·rename_i cs hx
    split at hev
    ·rename_i r hl
     have h1 := hE x
     rw [hx] at h1
     obtain ⟨v, r1, r2⟩ := field_op hP hf h1 hl
     exact z0x ⟨v, w, r1, Out.z0k h hev r2⟩
    ·cases hev
   ·cases hev
  ·cases hev
 case h_19 tt x ix hop =>
  refine Runs.wp (Post := Out X keep w0 ι C w nb e) ?_ (fun v w' hv => ⟨v, rfl, hv⟩)
  unfold execOp
  rw [hop]
  split at hev
  ·rename_i td k n htd hix
   have h1 := hE ix
   rw [hix, z0m] at h1
   simp only [h1]
   have hx := hE x
   split at hev
   ·rename_i e1 hk
    have : ∃ r, idxAV TT C e1 n (ev T x) some = some r ∧ (some (⟨r, [], []⟩ : Eff)) = some e := by
     rw [z5X C e1 n (ev T x) (fun r => some (⟨r, [], []⟩ : Eff))] at hev
     cases hc : idxAV TT C e1 n (ev T x) some with
     | none => rw [hc] at hev; cases hev
     | some r => rw [hc] at hev; exact ⟨r, rfl, hev⟩
    obtain ⟨r, h2, h3⟩ := this
    obtain ⟨v, r1, r2⟩ := indexAddr_sl hP h htd hk hx h2
    exact z0x ⟨v, w, r1, Out.z0k h h3 r2⟩
   ·rename_i m e1 hk
    have hx := hG x
    split at hev
    ·rename_i b o' hb
     rw [hb] at hx
     split at hev
     ·rename_i hs
      have : ∃ r, chain (R := AV) 0 b o' (z0l TT e1) n some m = some r ∧ (some (⟨r, [], []⟩ : Eff)) = some e := by
       rw [z6j 0 b o' (z0l TT e1) n (fun r => some (⟨r, [], []⟩ : Eff)) m] at hev
       cases hc : chain (R := AV) 0 b o' (z0l TT e1) n some m with
       | none => rw [hc] at hev; cases hev
       | some r => rw [hc] at hev; exact ⟨r, rfl, hev⟩
      obtain ⟨r, h2, h3⟩ := this
      obtain ⟨v, r1, r2⟩ := indexAddr_ar hP htd hk hs hx h2
      exact z0x ⟨v, w, r1, Out.z0k h h3 r2⟩
     ·cases hev
    ·rename_i cs hb
     rw [hb] at hx
     split at hev
     ·rename_i hs
      have : ∃ r, z3b (R := AV) 0 (z0l TT e1) cs n some m = some r ∧ (some (⟨r, [], []⟩ : Eff)) = some e := by
       rw [z4F 0 (z0l TT e1) cs n (fun r => some (⟨r, [], []⟩ : Eff)) m] at hev
       cases hc : z3b (R := AV) 0 (z0l TT e1) cs n some m with
       | none => rw [hc] at hev; cases hev
       | some r => rw [hc] at hev; exact ⟨r, rfl, hev⟩
      obtain ⟨r, h2, h3⟩ := this
      obtain ⟨v, r1, r2⟩ := indexAddr_arV hP htd hk hs hx h2
      exact z0x ⟨v, w, r1, Out.z0k h h3 r2⟩
     ·cases hev
    ·rename_i b hb
     rw [hb] at hx
     rw [z6m C m e1 b n (fun r => some (⟨r, [], []⟩ : Eff))] at hev
     cases hc : arrAt TT C m e1 b n some with
     | none => rw [hc] at hev; cases hev
     | some r =>
      rw [hc] at hev
      obtain ⟨v, r1, r2⟩ := arrAt_op hP h htd hk hx hc
      exact z0x ⟨v, w, r1, Out.z0k h hev r2⟩
    ·cases hev
   ·cases hev
  ·cases hev
 case h_20 tt x ix hop =>
  refine Runs.wp (Post := Out X keep w0 ι C w nb e) ?_ (fun v w' hv => ⟨v, rfl, hv⟩)
  unfold execOp
  rw [hop]
  split at hev
  ·rename_i td k n s htd hix hx
   split at hev
   ·rename_i hk
    split at hev
    ·rename_i d1
     split at hev
     ·rename_i d2
      have h1 := hE ix
      rw [hix, z0m] at h1
      have h2 := hE x
      rw [hx, z1g] at h2
      have hu := (hP tt td htd).und
      rw [hk] at hu
      simp only [h1, h2]
      exact z0x ⟨_, w, index_op hu d1 d2, Out.z0k h hev (z0m.2 rfl)⟩
     ·cases hev
    ·cases hev
   ·cases hev
  ·rename_i td k n cs htd hix hx
   split at hev
   ·rename_i m e1 hk
    split at hev
    ·rename_i hs
     have h1 := hE ix
     rw [hix, z0m] at h1
     have h2 := hE x
     rw [hx] at h2
     simp only [h1]
     have : ∃ r, chainA (R := AV) TT e1 (z0l TT e1) cs n some 0 m = some r ∧ (some (⟨r, [], []⟩ : Eff)) = some e := by
      rw [z4G TT e1 (z0l TT e1) cs n (fun r => some (⟨r, [], []⟩ : Eff)) 0 m] at hev
      cases hc : chainA (R := AV) TT e1 (z0l TT e1) cs n some 0 m with
      | none => rw [hc] at hev; cases hev
      | some r => rw [hc] at hev; exact ⟨r, rfl, hev⟩
     obtain ⟨r, h3, h4⟩ := this
     obtain ⟨v, r1, r2⟩ := index_ar hP htd hk hs h2 h3
     exact z0x ⟨v, w, r1, Out.z0k h h4 r2⟩
    ·cases hev
   ·cases hev
  ·cases hev
 case h_21 x i hop =>
  refine Runs.wp (Post := Out X keep w0 ι C w nb e) ?_ (fun v w' hv => ⟨v, rfl, hv⟩)
  unfold execOp
  rw [hop]
  split at hev
  ·rename_i cs hx
   split at hev
   ·rename_i y hy
    have h1 := hE x
    rw [hx] at h1
    simp only [RelV] at h1
    obtain ⟨us, h2, h3⟩ := h1
    obtain ⟨v, h4, h5⟩ := RelL_get i y h3 hy
    refine z0x ⟨v, w, ?_, Out.z0k h hev h5⟩
    rw [h2]
    simp [Instr.extract, h4]
   ·cases hev
  ·cases hev
 case h_22 f first captured hop =>
  refine Runs.wp (Post := Out X keep w0 ι C w nb e) ?_ (fun v w' hv => ⟨v, rfl, hv⟩)
  unfold execOp
  rw [hop]
  split at hev
  ·rename_i hf
   have hf := Nat.eq_of_beq_eq_true hf
   have hf : first = #[] := Array.eq_empty_of_size_eq_zero hf
   subst hf
   refine z0x ⟨.func (.func f) #[] (captured.map a.eval), w, by simp [Instr.makeFunc], Out.z0k h hev ?_⟩
   simp only [RelV]
   exact ⟨captured.toList.map a.eval, by rw [← Array.toList_map], z1S hT captured.toList⟩
  ·split at hev
   ·rename_i hf
    have hf := Nat.eq_of_beq_eq_true hf
    have hf : captured = #[] := Array.eq_empty_of_size_eq_zero hf
    subst hf
    refine z0x ⟨.func (.func f) (first.map a.eval) #[], w, by simp [Instr.makeFunc], Out.z0k h hev ?_⟩
    simp only [RelV]
    exact ⟨first.toList.map a.eval, by rw [← Array.toList_map], z1S hT first.toList⟩
   ·cases hev
 case h_23 tt x hop =>
  refine Runs.wp (Post := Out X keep w0 ι C w nb e) ?_ (fun v w' hv => ⟨v, rfl, hv⟩)
  unfold execOp
  rw [hop]
  split at hev
  ·rename_i s hk hx
   injection hev with hev
   subst hev
   have h1 := hE x
   rw [hx, z1g] at h1
   simp only [h1]
   exact z0x (range_op (z7l hP hk) h (hn nb (Nat.le_refl _) (by simp)))
  ·rename_i mk me b hk hx
   split at hev
   ·rename_i kt va vt l hb
    injection hev with hev
    subst hev
    obtain ⟨_, _, _, hu⟩ := z0D hP hk (by intro q; cases q)
    have h1 := hE x
    rw [hx] at h1
    exact z0x (rangeM_op (show P.underlying tt = some (.map mk me) from hu) h (hn nb (Nat.le_refl _) (by simp)) h1 hb)
   ·cases hev
  ·cases hev
 case h_24 x hop =>
  refine Runs.wp (Post := Out X keep w0 ι C w nb e) ?_ (fun v w' hv => ⟨v, rfl, hv⟩)
  unfold execOp
  rw [hop]
  split at hev
  ·rename_i b hb
   have h1 := hE x
   rw [hb] at h1
   split at hev
   ·rename_i s pos hC
    obtain ⟨q1, q2⟩ := next_op (nb := nb) (ty := o.type) h h1 hC
    split at hev
    ·rename_i hp
     injection hev with hev
     subst hev
     exact z0x (q1 hp)
    ·rename_i hp
     obtain ⟨v, r1, r2⟩ := q2 hp
     exact z0x ⟨v, w, r1, Out.z0k h hev r2⟩
   ·cases hev
  ·cases hev
 case h_25 c hop =>
  split at hev
  ·rename_i hcal
   split at hev
   ·rename_i x tt hargs hty
    have hargs : c.args = #[x] := by rw [← Array.toArray_toList (xs := c.args), hargs]
    have hty : c.argTypes = #[tt] := by rw [← Array.toArray_toList (xs := c.argTypes), hty]
    refine Runs.wp (Post := Out X keep w0 ι C w nb e) ?_ (fun v w' hv => ⟨v, rfl, hv⟩)
    unfold execOp
    rw [hop]
    have hx := hE x
    split at hev
    ·rename_i s hk hs
     rw [hs, z1g] at hx
     refine ⟨.int .i64 s.length, w, .inl ?_, Out.z0k h hev (z0m.2 rfl)⟩
     simp [resolve, hcal, invoke, builtin, hargs, hty, Builtin.len_, z0h (z7l hP hk), hx, goInt, z2R]
    ·rename_i hk hs
     rw [hs] at hx
     simp only [RelV] at hx
     refine ⟨.int .i64 0, w, .inl ?_, Out.z0k h hev (z0m.2 rfl)⟩
     simp [resolve, hcal, invoke, builtin, hargs, hty, Builtin.len_, z0h (kindOf_mp hP hk), hx, goInt]
    ·rename_i b hk hs
     rw [hs] at hx
     split at hev
     ·rename_i kt va vt l hb
      obtain ⟨g, es, ck, l', g1, g2, g3, g4, g5, g6, g7⟩ := z7i (P := P) h hx hb
      refine ⟨.int .i64 l.length, w, .inl ?_, Out.z0k h hev (z0m.2 rfl)⟩
      have hl : es.size = l.length := by rw [← g4.length_eq, ← z3p g6, Array.length_toList]
      simp [resolve, hcal, invoke, builtin, hargs, hty, Builtin.len_, z0h (kindOf_mp hP hk), g2, g7, goInt, hl]
     ·cases hev
    ·rename_i e1 hk
     split at hev
     ·rename_i n hl
      obtain ⟨A, m, cc, q1, q2⟩ := lenOf_sound h hx hl
      subst q2
      refine ⟨.int .i64 m, w, .inl ?_, Out.z0k h hev (z0m.2 rfl)⟩
      simp [resolve, hcal, invoke, builtin, hargs, hty, Builtin.len_, z0h (kindOf_sl hP hk), q1, goInt]
     ·cases hev
    ·cases hev
   ·cases hev
  ·rename_i hcal
   split at hev
   ·rename_i x y tt tt' hargs hty
    have hargs : c.args = #[x, y] := by rw [← Array.toArray_toList (xs := c.args), hargs]
    have hty : c.argTypes = #[tt, tt'] := by rw [← Array.toArray_toList (xs := c.argTypes), hty]
    split at hev
    ·rename_i n2 e2 he2
     split at hev
     ·rename_i hl
      injection hev with hev
      subst hev
      refine Runs.wp (Post := Out X keep w0 ι C w nb e2) ?_ (fun v w' hv => ⟨v, rfl, hv⟩)
      unfold execOp
      rw [hop]
      obtain ⟨v, w', r1, r2⟩ := nestA_op hP h (hn nb (Nat.le_refl _) (by rw [nestA_new he2]; exact Nat.lt_succ_self _)) (hE x) (hE y) he2 hl o.type
      refine ⟨v, w', .inl ?_, r2⟩
      simp [resolve, hcal, invoke, builtin, hargs, hty, r1]
     ·cases hev
    split at hev
    ·rename_i td htd
     split at hev
     ·rename_i e1 hk
      split at hev
      ·rename_i te hte
       split at hev
       ·rename_i ty htye
        split at hev
        ·rename_i hc
         simp only [Bool.and_eq_true] at hc
         obtain ⟨⟨c1, c2⟩, c3⟩ := hc
         obtain rfl := Nat.eq_of_beq_eq_true c1
         have c2 : 0 < ty.size := Nat.le_of_ble_eq_true c2
         have c3 := Nat.le_of_ble_eq_true c3
         split at hev
         ·rename_i ys f hel
          refine Runs.wp (Post := Out X keep w0 ι C w nb e) ?_ (fun v w' hv => ⟨v, rfl, hv⟩)
          unfold execOp
          rw [hop]
          have hx := hE x
          have hap : ∀ (s : Value → World → Prop), (∃ v w', (Builtin.append_ #[tt, tt] o.type #[a.eval x, a.eval y]).run P w = .ok v w' ∧ s v w') → Runs P (do let d ← resolve a.eval c o.type; invoke d.target d.args) w s := by
           rintro s ⟨v, w', r1, r2⟩
           refine ⟨v, w', .inl ?_, r2⟩
           simp [resolve, hcal, invoke, builtin, hargs, hty, r1]
          split at hev
          ·rename_i hxn
           split at hev
           ·rename_i hl
            injection hev with hev
            subst hev
            rw [hxn] at hx
            simp only [RelV] at hx
            refine hap _ ?_
            rw [hx]
            exact append_nil_op hP h (hn nb (Nat.le_refl _) (by simp)) htd hk hte htye o.type c2 c3 (hE y) hel hl
           ·cases hev
          ·rename_i b hxb
           rw [hxb] at hx
           split at hev
           ·rename_i t e' xs hC
            split at hev
            ·rename_i hq _
             obtain ⟨hq⟩ := hq
             subst hq
             split at hev
             ·rename_i hcc
              rw [Bool.and_eq_true] at hcc
              obtain ⟨d1, d2⟩ := hcc
              obtain rfl := Nat.eq_of_beq_eq_true d1
              split at hev
              ·rename_i hl
               injection hev with hev
               subst hev
               refine hap _ ?_
               exact append_row_op hP h (hn nb (Nat.le_refl _) (by simp)) htd hk hte htye o.type c2 c3 hx hC (hE y) hel (by simpa using d2) hl
              ·cases hev
             ·cases hev
            ·cases hev
           ·cases hev
          ·cases hev
         ·cases hev
        ·refine Runs.wp (Post := Out X keep w0 ι C w nb e) ?_ (fun v w' hv => ⟨v, rfl, hv⟩)
         unfold execOp
         rw [hop]
         obtain ⟨v, w', r1, r2⟩ := appStr_op hP h htd hk hte o.type (hE x) (hE y) hev hn
         refine ⟨v, w', .inl ?_, r2⟩
         simp [resolve, hcal, invoke, builtin, hargs, hty, r1]
       ·cases hev
      ·cases hev
     ·cases hev
    ·cases hev
   ·cases hev
  ·rename_i hcal
   split at hev
   ·rename_i x y tt tt' hargs hty
    have hargs : c.args = #[x, y] := by rw [← Array.toArray_toList (xs := c.args), hargs]
    have hty : c.argTypes = #[tt, tt'] := by rw [← Array.toArray_toList (xs := c.argTypes), hty]
    refine Runs.wp (Post := Out X keep w0 ι C w nb e) ?_ (fun v w' hv => ⟨v, rfl, hv⟩)
    unfold execOp
    rw [hop]
    split at hev
    ·rename_i e2 he2
     injection hev with hev
     subst hev
     obtain ⟨v, w', r1, r2⟩ := nestC_op (nb := nb) hP h (hE x) (hE y) he2 tt' o.type
     refine ⟨v, w', .inl ?_, r2⟩
     simp [resolve, hcal, invoke, builtin, hargs, hty, r1]
    have hev : copyOp TT tt C (ev T x) (ev T y) some = some e := hev
    obtain ⟨v, w', r1, r2⟩ := copyOp_op (nb := nb) hP h (hE x) (hE y) hev tt' o.type
    refine ⟨v, w', .inl ?_, r2⟩
    simp [resolve, hcal, invoke, builtin, hargs, hty, r1]
   ·cases hev
  ·rename_i hcal
   split at hev
   ·rename_i x tt hargs hty
    have hargs : c.args = #[x] := by rw [← Array.toArray_toList (xs := c.args), hargs]
    have hty : c.argTypes = #[tt] := by rw [← Array.toArray_toList (xs := c.argTypes), hty]
    split at hev
    ·rename_i e2 he2
     injection hev with hev
     subst hev
     refine Runs.wp (Post := Out X keep w0 ι C w nb e2) ?_ (fun v w' hv => ⟨v, rfl, hv⟩)
     unfold execOp
     rw [hop]
     obtain ⟨v, w', r1, r2⟩ := nestZ_op (nb := nb) hP h (hE x) he2 o.type
     refine ⟨v, w', .inl ?_, r2⟩
     simp [resolve, hcal, invoke, builtin, hargs, hty, r1]
    ·cases hev
   ·cases hev
  ·rename_i hcal
   split at hev
   ·rename_i x y hargs
    have hargs : c.args = #[x, y] := by rw [← Array.toArray_toList (xs := c.args), hargs]
    refine Runs.wp (Post := Out X keep w0 ι C w nb e) ?_ (fun v w' hv => ⟨v, rfl, hv⟩)
    unfold execOp
    rw [hop]
    have hx := hE x
    have hy := hE y
    split at hev
    ·rename_i k i k' j h1 h2
     rw [h1, z0m] at hx
     rw [h2, z0m] at hy
     refine ⟨.int k (if j > i then j else i), w, .inl ?_, Out.z0k h hev (z0m.2 (by unfold imax; rfl))⟩
     simp [resolve, hcal, invoke, builtin, hargs, Builtin.max_, Builtin.max2, hx, hy]
    ·cases hev
   ·cases hev
  ·rename_i fo hcal
   split at hev
   ·rename_i g cs hfn
    split at hev
    ·rename_i co hco
     rcases hΔ g co hco with hok | hok
     ·obtain ⟨fn, f1, f2, f3⟩ := hok.fn
      have hf := hE fo
      rw [hfn] at hf
      simp only [RelV] at hf
      obtain ⟨us, hu, hr⟩ := hf
      have hargs : RelL w (okb X w ι C) ι (c.args.toList.map (ev T) ++ cs) (c.args.toList.map a.eval ++ us) := z0B (z1S hT _) hr
      rw [hok.nat] at hev
      have hev : co (c.args.toList.map (ev T) ++ cs) C nb Eff some = some e := by
       cases hc : co (c.args.toList.map (ev T) ++ cs) C nb Eff some with
       | none => rw [hc] at hev; cases hev
       | some e' => rw [hc] at hev; exact hev
      have hrun := hok.run X keep w0 w ι C nb _ _ e h hargs hev hn
      have hexec : (execOp a.eval o).run P w = .ok (.enter g (c.args.toList.map a.eval ++ us).toArray) w := by
       unfold execOp
       rw [hop]
       have hname : ¬ fn.name = "runtime.NumGoroutine" := by simpa using f2
       have hb : ¬ fn.body = none := by
        intro hb
        rw [hb] at f3
        cases f3
       have harr : Array.map a.eval c.args ++ us.toArray = (List.map a.eval c.args.toList ++ us).toArray := by
        apply Array.ext'
        simp
       simp [resolve, hcal, hu, Deferred.ofValue, invoke, callFunc, f1, hname, hb, harr]
      unfold Oper.wp
      rw [hexec, Oper.upon_enter]
      refine hrun.mono ?_
      rintro en w' ⟨v, rfl, hv⟩
      exact ⟨v, rfl, hv⟩
     ·have hf := hE fo
      rw [hfn] at hf
      simp only [RelV] at hf
      obtain ⟨us, hu, hr⟩ := hf
      have hargs : RelL w (okb X w ι C) ι (c.args.toList.map (ev T) ++ cs) (c.args.toList.map a.eval ++ us) := z0B (z1S hT _) hr
      rw [hok.nat] at hev
      have hev : co (c.args.toList.map (ev T) ++ cs) C nb Eff some = some e := by
       cases hc : co (c.args.toList.map (ev T) ++ cs) C nb Eff some with
       | none => rw [hc] at hev; cases hev
       | some e' => rw [hc] at hev; exact hev
      obtain ⟨v, w', r1, r2⟩ := hok.run X keep w0 w ι C nb _ _ e h hargs hev hn
      refine Runs.wp (Post := Out X keep w0 ι C w nb e) ?_ (fun v w' hv => ⟨v, rfl, hv⟩)
      refine ⟨v, w', .inl ?_, r2⟩
      unfold execOp
      rw [hop]
      have harr : Array.map a.eval c.args ++ us.toArray = (List.map a.eval c.args.toList ++ us).toArray := by
       apply Array.ext'
       simp
      simp [resolve, hcal, hu, Deferred.ofValue, invoke, harr, r1]
    ·cases hev
   ·rename_i g cs hfn
    split at hev
    ·rename_i co hco
     rcases hΔ g co hco with hok | hok
     ·obtain ⟨fn, f1, f2, f3⟩ := hok.fn
      have hf := hE fo
      rw [hfn] at hf
      simp only [RelV] at hf
      obtain ⟨us, hu, hr⟩ := hf
      have hargs : RelL w (okb X w ι C) ι (cs ++ c.args.toList.map (ev T)) (us ++ c.args.toList.map a.eval) := z0B hr (z1S hT _)
      rw [hok.nat] at hev
      have hev : co (cs ++ c.args.toList.map (ev T)) C nb Eff some = some e := by
       cases hc : co (cs ++ c.args.toList.map (ev T)) C nb Eff some with
       | none => rw [hc] at hev; cases hev
       | some e' => rw [hc] at hev; exact hev
      have hrun := hok.run X keep w0 w ι C nb _ _ e h hargs hev hn
      have hexec : (execOp a.eval o).run P w = .ok (.enter g (us ++ c.args.toList.map a.eval).toArray) w := by
       unfold execOp
       rw [hop]
       have hname : ¬ fn.name = "runtime.NumGoroutine" := by simpa using f2
       have hb : ¬ fn.body = none := by
        intro hb
        rw [hb] at f3
        cases f3
       have harr : us.toArray ++ Array.map a.eval c.args = (us ++ List.map a.eval c.args.toList).toArray := by
        apply Array.ext'
        simp
       simp [resolve, hcal, hu, Deferred.ofValue, invoke, callFunc, f1, hname, hb, harr]
      unfold Oper.wp
      rw [hexec, Oper.upon_enter]
      refine hrun.mono ?_
      rintro en w' ⟨v, rfl, hv⟩
      exact ⟨v, rfl, hv⟩
     ·have hf := hE fo
      rw [hfn] at hf
      simp only [RelV] at hf
      obtain ⟨us, hu, hr⟩ := hf
      have hargs : RelL w (okb X w ι C) ι (cs ++ c.args.toList.map (ev T)) (us ++ c.args.toList.map a.eval) := z0B hr (z1S hT _)
      rw [hok.nat] at hev
      have hev : co (cs ++ c.args.toList.map (ev T)) C nb Eff some = some e := by
       cases hc : co (cs ++ c.args.toList.map (ev T)) C nb Eff some with
       | none => rw [hc] at hev; cases hev
       | some e' => rw [hc] at hev; exact hev
      obtain ⟨v, w', r1, r2⟩ := hok.run X keep w0 w ι C nb _ _ e h hargs hev hn
      refine Runs.wp (Post := Out X keep w0 ι C w nb e) ?_ (fun v w' hv => ⟨v, rfl, hv⟩)
      refine ⟨v, w', .inl ?_, r2⟩
      unfold execOp
      rw [hop]
      have harr : us.toArray ++ Array.map a.eval c.args = (us ++ List.map a.eval c.args.toList).toArray := by
       apply Array.ext'
       simp
      simp [resolve, hcal, hu, Deferred.ofValue, invoke, harr, r1]
    ·cases hev
   ·rename_i x hfn
    obtain ⟨g, co, hxg, hco, hev2⟩ := z6n hev
    subst hxg
    ·rcases hΔ g co hco with hok | hok
     ·obtain ⟨fn, f1, f2, f3⟩ := hok.fn
      have hf := hE fo
      rw [hfn] at hf
      simp only [RelV] at hf
      have hu : a.eval fo = .func (.func g) #[] #[] := by
       have hf : [a.eval fo] = [fvV ((g + 1 : Nat) : Int)] := hf
       injection hf
      have hargs : RelL w (okb X w ι C) ι (c.args.toList.map (ev T)) (c.args.toList.map a.eval) := z1S hT _
      have hrun := hok.run X keep w0 w ι C nb _ _ e h hargs hev2 hn
      have hexec : (execOp a.eval o).run P w = .ok (.enter g (c.args.toList.map a.eval).toArray) w := by
       unfold execOp
       rw [hop]
       have hname : ¬ fn.name = "runtime.NumGoroutine" := by simpa using f2
       have hb : ¬ fn.body = none := by
        intro hb
        rw [hb] at f3
        cases f3
       have harr : Array.map a.eval c.args = (List.map a.eval c.args.toList).toArray := by
        apply Array.ext'
        simp
       simp [resolve, hcal, hu, Deferred.ofValue, invoke, callFunc, f1, hname, hb, harr]
      unfold Oper.wp
      rw [hexec, Oper.upon_enter]
      refine hrun.mono ?_
      rintro en w' ⟨v, rfl, hv⟩
      exact ⟨v, rfl, hv⟩
     ·have hf := hE fo
      rw [hfn] at hf
      simp only [RelV] at hf
      have hu : a.eval fo = .func (.func g) #[] #[] := by
       have hf : [a.eval fo] = [fvV ((g + 1 : Nat) : Int)] := hf
       injection hf
      have hargs : RelL w (okb X w ι C) ι (c.args.toList.map (ev T)) (c.args.toList.map a.eval) := z1S hT _
      obtain ⟨v, w', r1, r2⟩ := hok.run X keep w0 w ι C nb _ _ e h hargs hev2 hn
      refine Runs.wp (Post := Out X keep w0 ι C w nb e) ?_ (fun v w' hv => ⟨v, rfl, hv⟩)
      refine ⟨v, w', .inl ?_, r2⟩
      unfold execOp
      rw [hop]
      have harr : Array.map a.eval c.args = (List.map a.eval c.args.toList).toArray := by
       apply Array.ext'
       simp
      simp [resolve, hcal, hu, Deferred.ofValue, invoke, harr, r1]
   ·cases hev
  ·rename_i hcal
   split at hev
   ·rename_i x y tt tt' hargs hty
    have hargs : c.args = #[x, y] := by rw [← Array.toArray_toList (xs := c.args), hargs]
    have hty : c.argTypes = #[tt, tt'] := by rw [← Array.toArray_toList (xs := c.argTypes), hty]
    refine Runs.wp (Post := Out X keep w0 ι C w nb e) ?_ (fun v w' hv => ⟨v, rfl, hv⟩)
    unfold execOp
    rw [hop]
    have hev : z5T TT tt C (ev T x) (ev T y) some = some e := hev
    obtain ⟨w', r1, r2⟩ := del_op (nb := nb) (ty := o.type) (ts := c.argTypes) hP h (hE x) (hE y) hev (by rw [hty]; rfl)
    refine ⟨.tuple #[], w', .inl ?_, r2⟩
    simp [resolve, hcal, invoke, builtin, hargs, r1]
   ·cases hev
  ·rename_i hcal
   split at hev
   ·rename_i x hargs
    have hargs : c.args = #[x] := by rw [← Array.toArray_toList (xs := c.args), hargs]
    refine Runs.wp (Post := Out X keep w0 ι C w nb e) ?_ (fun v w' hv => ⟨v, rfl, hv⟩)
    unfold execOp
    rw [hop]
    have hev : ∃ r, sdata C (ev T x) some = some r ∧ (some (⟨r, [], []⟩ : Eff)) = some e := by
     rw [z5t C (ev T x) (fun r => some (⟨r, [], []⟩ : Eff))] at hev
     cases hb : sdata C (ev T x) some with
     | none => rw [hb] at hev; cases hev
     | some r => rw [hb] at hev; exact ⟨r, rfl, hev⟩
    obtain ⟨r, h1, h2⟩ := hev
    obtain ⟨v, r1, r2⟩ := sdata_op (P := P) h (hE x) h1 c.argTypes o.type
    refine ⟨v, w, .inl ?_, Out.z0k h h2 r2⟩
    simp [resolve, hcal, invoke, builtin, hargs, r1]
   ·cases hev
  ·rename_i hcal
   split at hev
   ·rename_i x y tt tt' hargs hty
    have hargs : c.args = #[x, y] := by rw [← Array.toArray_toList (xs := c.args), hargs]
    have hty : c.argTypes = #[tt, tt'] := by rw [← Array.toArray_toList (xs := c.argTypes), hty]
    refine Runs.wp (Post := Out X keep w0 ι C w nb e) ?_ (fun v w' hv => ⟨v, rfl, hv⟩)
    unfold execOp
    rw [hop]
    have hev : ustr TT tt C (ev T x) (ev T y) some = some e := hev
    obtain ⟨v, w', r1, r2⟩ := ustr_op (nb := nb) hP h (hE x) (hE y) hev tt' o.type
    refine ⟨v, w', .inl ?_, r2⟩
    simp [resolve, hcal, invoke, builtin, hargs, hty, r1]
   ·cases hev
  ·cases hev
 case h_26 tt r hop =>
  refine Runs.wp (Post := Out X keep w0 ι C w nb e) ?_ (fun v w' hv => ⟨v, rfl, hv⟩)
  unfold execOp
  rw [hop]
  split at hev
  ·rename_i kt va vt hm
   obtain ⟨hk, k, et, te, hu, _⟩ := z2d hP hm
   split at hev
   ·rename_i hr
    injection hev with hev
    subst hev
    refine z0x (makeMap_op h (hn nb (Nat.le_refl _) (by simp)) hk hu fun v hv => ?_)
    cases r with
    | none => cases hv
    | some x =>
     unfold mapRoom at hr
     simp only at hr
     injection hv with hv
     subst hv
     split at hr
     ·rename_i k n hx
      have := hE x
      rw [hx] at this
      exact ⟨_, _, z0m.1 this⟩
     ·cases hr
   ·cases hev
  ·cases hev
 case h_27 tt x ix comma hop =>
  refine Runs.wp (Post := Out X keep w0 ι C w nb e) ?_ (fun v w' hv => ⟨v, rfl, hv⟩)
  unfold execOp
  rw [hop]
  have hev : ∃ r, mapLook TT tt C (ev T x) (ev T ix) comma some = some r ∧ (some (⟨r, [], []⟩ : Eff)) = some e := by
   rw [z3K tt C (ev T x) (ev T ix) comma (fun r => some (⟨r, [], []⟩ : Eff))] at hev
   cases hb : mapLook TT tt C (ev T x) (ev T ix) comma some with
   | none => rw [hb] at hev; cases hev
   | some r => rw [hb] at hev; exact ⟨r, rfl, hev⟩
  obtain ⟨r, h1, h2⟩ := hev
  obtain ⟨v, r1, r2⟩ := look_op hP h (hE x) (hE ix) h1
  exact z0x ⟨v, w, r1, Out.z0k h h2 r2⟩
 case h_28 tt m k x hop =>
  refine Runs.wp (Post := Out X keep w0 ι C w nb e) ?_ (fun v w' hv => ⟨v, rfl, hv⟩)
  unfold execOp
  rw [hop]
  exact z5u (set_op hP h (hE m) (hE k) (hE x) hev)
 case h_29 tt m k x hop =>
  refine Runs.wp (Post := Out X keep w0 ι C w nb e) ?_ (fun v w' hv => ⟨v, rfl, hv⟩)
  unfold execOp
  rw [hop]
  exact z5u (set_op hP h (hE m) (hE k) (hE x) hev)
 case h_30 tt m k hop =>
  refine Runs.wp (Post := Out X keep w0 ι C w nb e) ?_ (fun v w' hv => ⟨v, rfl, hv⟩)
  unfold execOp
  rw [hop]
  have hne : 0 < e.new.length := by
   have := hev
   unfold mapEnt at this
   repeat' split at this
   all_goals first | (cases this; done) | (injection this with this; subst this; simp)
  exact z0x (ent_op hP h (hn nb (Nat.le_refl _) (by omega)) (hE m) (hE k) hev)
 case h_31 tt m s x hop =>
  refine Runs.wp (Post := Out X keep w0 ι C w nb e) ?_ (fun v w' hv => ⟨v, rfl, hv⟩)
  unfold execOp
  rw [hop]
  exact z5u (entset_op h (hE m) (hE s) (hE x) hev)
 case h_32 x hop =>
  refine Runs.wp (Post := Out X keep w0 ι C w nb e) ?_ (fun v w' hv => ⟨v, rfl, hv⟩)
  unfold execOp
  rw [hop]
  split at hev
  ·rename_i b hx
   split at hev
   ·rename_i kt va vt l p hb
    injection hev with hev
    subst hev
    have h1 := hE x
    rw [hx] at h1
    obtain ⟨v, r1, r2⟩ := entry_op (P := P) h h1 hb
    exact z0x ⟨v, w, r1, Out.z0k h rfl r2⟩
   ·cases hev
  ·cases hev
 all_goals cases hev
end
end Go.Proofs.Rf
namespace Go.Proofs.Rf
open Go Go.RowKit
def WF (ρ : Option Nat) : Fence := { fn := fun _ => True, depth := none, alive := false, round := ρ }
theorem z4q {P : Program} {ρ : Option Nat} {d : Nat} {o : Oper} {a : Act} {w : World} {K : Act → World → Prop} {Q : Exit → Act → World → Prop} (hd : ∀ c, o.op ≠ .defer c) (h : o.wp P a w K Q) : o.wpIn (WF ρ) d P a w K Q := by
 refine ⟨fun _ _ => trivial, ?_⟩
 rw [Oper.semAt_eq _ _ _ hd]
 unfold Oper.wp at h
 have hn : (WF ρ).depth.isSome = true → 1 ≤ d := fun h => by cases h
 generalize (execOp a.eval o).run P w = r at *
 cases r with
 | ok x w' =>
  cases x <;> simp only [Oper.upon, Oper.uponIn] at h ⊢
  case value v => exact h
  case skip => exact h
  case defer q => exact h
  case enter f args => exact ⟨hn, callsIn_wide.2 h⟩
  case row row args =>
   refine ⟨hn, fun c cs _ => ?_⟩
   obtain ⟨v, w'', h1, h2⟩ := h c cs
   exact ⟨v, w'', h1, stepsIn_wide.2 h2⟩
 | halt x w' => cases x <;> simp only [Oper.upon, Oper.uponIn] at h ⊢ <;> exact h
structure z0L where
 marks : Bool
 base : Nat
 ok : Nat → Bool
 G : Array Value → Prop
 lt : ∀ tm d, G tm → ok d = true → d < tm.size
 set : ∀ tm d v, G tm → ok d = true → G (tm.setIfInBounds d v)
def MarksOK (base : Nat) (keep : Nat → Prop) (w0 : World) : List Deferred → Prop
 | [] => True
 | d :: ds => (∃ D, d.target = .collected D ∧ base ≤ D ∧ keep D ∧ w0.heap[D]? = some (.deferred (some [])) ∧ ∀ e ∈ ds, e.target ≠ .collected D) ∧ MarksOK base keep w0 ds
section
variable {X keep : Nat → Prop} {w0 w : World} {ι : Nat → Option Value} {C : Nat → Blk} {P : Program} {TT : Tab} {Δ : Nat → Option z0G} {n : z0L}
theorem evOp_nat (hΔ : z0R P Δ) {R : Type} (o : Oper) (T : Nat → AV) (C : Nat → Blk) (nb : Nat) (K : Eff → Option R) : evOp TT Δ o T C nb K = (evOp TT Δ o T C nb some).bind K := by
 have hb : ∀ {x : Option AV} {L : Option R} {M : Option Eff}, L = x.bind (fun a => K ⟨a, [], []⟩) → M = x.bind (fun a => some ⟨a, [], []⟩) → L = M.bind K := by
  rintro x L M rfl rfl
  cases x <;> rfl
 unfold evOp
 split
 case h_5 e0 x hop =>
  split
  ·split
   ·split <;> rfl
   ·rfl
  ·split <;> rfl
 case h_10 x hop =>
  split <;> first | rfl | (split <;> rfl)
 case h_11 op tt x y yt hop =>
  split
  ·rfl
  split
  ·rfl
  ·exact hb (bin_nat ..) (bin_nat ..)
 case h_12 op xt x hop =>
  exact hb (uny_nat ..) (uny_nat ..)
 case h_13 src dst x hop =>
  split
  ·split <;> rfl
  ·split
   ·split
    ·split <;> rfl
    ·rfl
   ·rfl
  ·split
   ·split <;> rfl
   ·exact hb (unsf_nat ..) (unsf_nat ..)
  ·rfl
 case h_15 tt x lo hi hop =>
  split
  ·exact hb (z2Q ..) (z2Q ..)
  ·exact hb (z3F ..) (z3F ..)
 case h_16 tt x lo hi mx hop =>
  exact hb (z4v ..) (z4v ..)
 case h_19 tt x ix hop =>
  repeat' split
  all_goals first
   | rfl
   | exact hb (z5X ..) (z5X ..)
   | exact hb (z6j ..) (z6j ..)
   | exact hb (z4F ..) (z4F ..)
   | exact hb (z6m ..) (z6m ..)
 case h_20 tt x ix hop =>
  repeat' split
  all_goals first
   | rfl
   | exact hb (z4G ..) (z4G ..)
 case h_25 c hop =>
  split
  ·repeat' split
   all_goals rfl
  ·repeat' split
   all_goals first | rfl | exact appStr_nat ..
  ·split
   ·split
    ·rfl
    ·exact copyOp_nat ..
   ·rfl
  ·repeat' split
   all_goals rfl
  ·repeat' split
   all_goals rfl
  ·split
   ·split
    ·rename_i co hco
     exact (hΔ _ co hco).nat ..
    ·rfl
   ·split
    ·rename_i co hco
     exact (hΔ _ co hco).nat ..
    ·rfl
   ·exact z7r hΔ ..
   ·rfl
  ·split
   ·exact mapDel_nat ..
   ·rfl
  ·split
   ·exact hb (z5t ..) (z5t ..)
   ·rfl
  ·split
   ·exact ustr_nat ..
   ·rfl
  ·rfl
 case h_27 tt x ix comma hop =>
  exact hb (z3K ..) (z3K ..)
 case h_28 tt m k x hop =>
  exact z7h ..
 case h_29 tt m k x hop =>
  exact z7h ..
 case h_30 tt m k hop =>
  exact mapEnt_nat ..
 case h_31 tt m s x hop =>
  exact entSet_nat ..
 all_goals ((repeat' split) <;> rfl)
theorem z1m : ∀ (bl : List Blk) (k : Nat) (b : Blk), (setB bl k b).length = bl.length
 | [], _, _ => rfl
 | _ :: _, 0, _ => rfl
 | _ :: r, k + 1, b => by simp [setB, z1m r k b]
theorem z4c : ∀ (bl : List Blk) (k : Nat) (b : Blk), k < bl.length → getB (setB bl k b) = setC (getB bl) k b
 | [], k, _, h => by simp at h
 | c :: r, 0, b, _ => by
  funext j
  cases j with
  | zero => simp [setB, getB, setC]
  | succ j => simp [setB, getB, setC]
 | c :: r, k + 1, b, h => by
  funext j
  have ih := z4c r k b (by simpa using h)
  cases j with
  | zero => simp [setB, getB, setC]
  | succ j =>
   have := congrFun ih j
   simp only [setB, getB, setC, Nat.add_right_cancel_iff] at this ⊢
   exact this
theorem z1X : ∀ (u : List (Nat × Blk)) (bl : List Blk), (updB bl u).length = bl.length
 | [], _ => rfl
 | (k, b) :: r, bl => by
  show (updB (setB bl k b) r).length = _
  rw [z1X r, z1m]
theorem getB_updB : ∀ (u : List (Nat × Blk)) (bl : List Blk), updLt bl.length u = true → getB (updB bl u) = updC (getB bl) u
 | [], _, _ => rfl
 | (k, b) :: r, bl, h => by
  simp only [updLt, Bool.and_eq_true] at h
  have hk : k < bl.length := Nat.le_of_ble_eq_true h.1
  show getB (updB (setB bl k b) r) = updC (setC (getB bl) k b) r
  rw [getB_updB r _ (by rw [z1m]; exact h.2), z4c _ _ _ hk]
theorem z2K : ∀ (bl : List Blk) (k : Nat), bl.length ≤ k → getB bl k = .dead
 | [], _, _ => rfl
 | _ :: r, 0, h => by simp at h
 | _ :: r, k + 1, h => z2K r k (by simpa using h)
theorem z0W : ∀ (bl : List Blk) (b : Blk), getB (bl ++ [b]) = setC (getB bl) bl.length b
 | [], b => by
  funext j
  cases j with
  | zero => rfl
  | succ j => simp [getB, setC]
 | c :: r, b => by
  funext j
  have ih := z0W r b
  cases j with
  | zero => simp [getB, setC]
  | succ j =>
   have := congrFun ih j
   simp only [List.cons_append, getB, setC, List.length_cons, Nat.add_right_cancel_iff] at this ⊢
   exact this
theorem z6a : ∀ (new bl : List Blk), getB (bl ++ new) = addC (getB bl) bl.length new
 | [], bl => by rw [List.append_nil]; rfl
 | b :: r, bl => by
  show getB (bl ++ b :: r) = addC (setC (getB bl) bl.length b) (bl.length + 1) r
  rw [← z0W, show bl ++ b :: r = (bl ++ [b]) ++ r by simp, z6a r, List.length_append]
  rfl
theorem getB_eff {bl : List Blk} {e : Eff} (h : updLt bl.length e.upd = true) : getB (updB bl e.upd ++ e.new) = effC (getB bl) bl.length e := by
 rw [z6a, z1X, getB_updB _ _ h]; rfl
def effT (T : Nat → AV) (dst : Option Nat) (x : AV) : Nat → AV := fun t => if dst = some t then x else T t
structure FRel (X keep : Nat → Prop) (w0 : World) (n : z0L) (ι : Nat → Option Value) (T : Nat → AV) (C : Nat → Blk) (a : Act) (w : World) : Prop where
 h : HRel X keep w0 ι C w
 tm : ∀ t, RelV w (okb X w ι C) ι (T t) (a.tmps.getD t undef)
 size : n.G a.tmps
 defers : n.base ≤ w0.heap.size ∧ (n.marks = false → a.defers = []) ∧ MarksOK n.base keep w0 a.defers
theorem put_getD {a : Act} {dst : Option Nat} {v : Value} (h : ∀ d, dst = some d → d < a.tmps.size) (t : Nat) : (a.put dst v).tmps.getD t undef = if dst = some t then v else a.tmps.getD t undef := by
 cases dst with
 | none => simp [Act.put]
 | some d =>
  have hd := h d rfl
  by_cases ht : d = t
  ·subst ht
   simp [Act.put, hd]
  ·have : ¬ (some d = some t) := fun e => ht (by injection e)
   rw [if_neg this]
   simp [Act.put, Array.getD_eq_getD_getElem?, Array.getElem?_setIfInBounds_ne ht]
theorem put_defers (a : Act) (dst : Option Nat) (v : Value) : (a.put dst v).defers = a.defers := by cases dst <;> rfl
theorem FRel.step {T : Nat → AV} {a : Act} {ι' : Nat → Option Value} {C' : Nat → Blk} {w' : World} (h : FRel X keep w0 n ι T C a w) {dst : Option Nat} (hd : ∀ d, dst = some d → n.ok d = true) {x : AV} {v : Value}
  (h1 : HRel X keep w0 ι' C' w') (h2 : Ext X ι C w ι' C' w') (h3 : RelV w' (okb X w' ι' C') ι' x v) : FRel X keep w0 n ι' (effT T dst x) C' (a.put dst v) w' := by
 have hG : n.G (a.put dst v).tmps := by
  cases dst with
  | none => exact h.size
  | some d => exact n.set _ _ _ h.size (hd d rfl)
 refine ⟨h1, fun t => ?_, hG, by rw [put_defers]; exact h.defers⟩
 rw [put_getD (fun d hdd => n.lt _ _ h.size (hd d hdd))]
 unfold effT
 split
 ·exact h3
 ·exact h2.val (h.tm t)
theorem FRel.drawn {T : Nat → AV} {a : Act} (h : FRel X keep w0 n ι T C a w) (k : Nat) : FRel X keep w0 n ι T C a { w with drawn := k } := by
 have hc : ∀ p, ({ w with drawn := k } : World).cell? p = w.cell? p := fun _ => rfl
 have hext : Ext X ι C w ι C { w with drawn := k } := ⟨fun _ _ e => e, fun _ e => e, fun _ _ => rfl⟩
 refine ⟨⟨fun j => z6z hext j (h.h.bl j) rfl (fun _ _ => rfl), h.h.inj, ⟨h.h.fr.os, h.h.fr.tape, h.h.fr.output, h.h.fr.size, h.h.fr.block⟩, h.h.own, h.h.kl, h.h.ox, h.h.xl, h.h.gl.ext hext⟩, fun t => hext.val (h.tm t), h.size, h.defers⟩
structure SRel (X keep : Nat → Prop) (w0 : World) (n : z0L) (ι : Nat → Option Value) (s : St) (a : Act) (w : World) : Prop where
 f : FRel X keep w0 n ι (getT s.tm) (getB s.bl) a w
 dom : ∀ k, s.bl.length ≤ k → ι k = none
theorem z2Z (d : Nat) (x : AV) (tm : List (Nat × AV)) : getT ((d, x) :: tm) = effT (getT tm) (some d) x := by
 funext t
 show (if Nat.beq d t = true then x else getT tm t) = if some d = some t then x else getT tm t
 by_cases h : d = t
 ·subst h
  rw [if_pos rfl, if_pos (Nat.beq_refl d)]
 ·rw [if_neg (fun e => h (Nat.eq_of_beq_eq_true e)), if_neg (fun e => h (by injection e))]
theorem z4h {o : Oper} (h : dstOk n.ok o = true) : ∀ d, o.dst = some d → n.ok d = true := by
 intro d hd
 unfold dstOk at h
 rw [hd] at h
 exact h
theorem stepE_tm (o : Oper) (s : St) (e : Eff) : getT (z5a o s e).tm = effT (getT s.tm) o.dst e.dst := by
 unfold z5a
 cases o.dst with
 | none => funext t; simp [effT]
 | some d => exact z2Z d e.dst s.tm
theorem z3O (o : Oper) (s : St) (e : Eff) : (z5a o s e).bl = updB s.bl e.upd ++ e.new := by unfold z5a; cases o.dst <;> rfl
theorem stepS_tm (o : Oper) (s : St) : getT (z6I o s).tm = effT (getT s.tm) o.dst .ud := by
 unfold z6I
 cases o.dst with
 | none => funext t; simp [effT]
 | some d => exact z2Z d .ud s.tm
theorem stepS_bl (o : Oper) (s : St) : (z6I o s).bl = s.bl := by unfold z6I; cases o.dst <;> rfl
def Lk (ι0 ι : Nat → Option Value) : Prop := ∀ k v, ι0 k = some v → ι k = some v
theorem SRel.run (hP : z0n P TT) (hΔ : z0R P Δ) {s : St} {a : Act} (h : SRel X keep w0 n ι s a w) {o : Oper} (hd : dstOk n.ok o = true) {e : Eff}
  (hev : evOp TT Δ o (getT s.tm) (getB s.bl) s.bl.length some = some e) (hu : updLt s.bl.length e.upd = true) {K : Act → World → Prop} {Q : Exit → Act → World → Prop}
  (hK : ∀ ι' a' w', SRel X keep w0 n ι' (z5a o s e) a' w' → Lk ι ι' → K a' w') : o.wp P a w K Q := by
 refine Oper.wp_mono ?_ (z7n hP hΔ h.f.h h.f.tm hev (fun k hk _ => h.dom k hk) (Q := Q))
 rintro a' w' ⟨v, rfl, ι', h1, h2, h3, h4⟩
 refine hK ι' _ w' ⟨?_, fun k hk => ?_⟩ h2.io
 ·have := h.f.step (z4h hd) h1 h2 h3
  rw [stepE_tm, z3O, getB_eff hu]
  exact this
 ·rw [z3O, List.length_append, z1X] at hk
  rw [h4 k (by omega)]
  exact h.dom k (by omega)
theorem SRel.skip {s : St} {a : Act} (h : SRel X keep w0 n ι s a w) {o : Oper} (hd : dstOk n.ok o = true) : SRel X keep w0 n ι (z6I o s) (a.put o.dst undef) w := by
 refine ⟨?_, fun k hk => ?_⟩
 ·rw [stepS_tm, stepS_bl]
  exact h.f.step (z4h hd) h.f.h (Ext.refl _ _ _ _) (by simp only [RelV])
 ·rw [stepS_bl] at hk
  exact h.dom k hk
theorem z2P {ops : Array Oper} {a : Act} {j g : Nat} (hg : (ops[j]?).bind (·.dst) = some g) {b : Bool} (hv : a.tmps.getD g undef = .bool b) : yielded ops a.tmps j = some b := by
 unfold yielded
 rw [hg]
 have : a.tmps[g]? = some (.bool b) := by
  rw [Array.getD_eq_getD_getElem?] at hv
  cases hq : a.tmps[g]? with
  | none => rw [hq] at hv; cases hv
  | some u => rw [hq] at hv; rw [← hv]; rfl
 simp [this]
theorem z6W {ops : Array Oper} {a : Act} {j g : Nat} (hg : (ops[j]?).bind (·.dst) = some g) (hv : a.tmps.getD g undef = undef) : yielded ops a.tmps j = none := by
 unfold yielded
 rw [hg]
 show (match a.tmps[g]? with | some (.bool b) => some b | _ => none) = none
 rw [Array.getD_eq_getD_getElem?] at hv
 cases hq : a.tmps[g]? with
 | none => rfl
 | some u => rw [hq] at hv; rw [show u = undef from hv]; rfl
theorem SRel.known {s : St} {a : Act} (h : SRel X keep w0 n ι s a w) {g : Nat} {b : Bool} (hg : getT s.tm g = .d .bool b) : SRel X keep w0 n ι ⟨(g, .d .bool b) :: s.tm, s.bl⟩ a w := by
 refine ⟨?_, h.dom⟩
 have : getT ((g, .d .bool b) :: s.tm) = getT s.tm := by
  rw [z2Z]
  funext t
  unfold effT
  split
  ·rename_i e
   injection e with e
   subst e
   exact hg.symm
  ·rfl
 rw [this]
 exact h.f
theorem evOpD_false {R : Type} (o : Oper) (s : St) (K : Eff → Option R) : evOpD TT Δ false o s K = evOp TT Δ o (getT s.tm) (getB s.bl) s.bl.length K := rfl
theorem z1e {α β : Type} {x : Option α} {f : α → Option β} {r : β} (h : x.bind f = some r) : ∃ y, x = some y ∧ f y = some r := by
 cases x with
 | none => cases h
 | some y => exact ⟨y, rfl, h⟩
theorem z4f {R : Type} {o : Oper} {T : Nat → AV} {C : Nat → Blk} {nb : Nat} {K : Eff → Option R} {r : R} (h : evOp TT Δ o T C nb K = some r) : ∀ c, o.op ≠ .defer c := by
 intro c hc
 unfold evOp at h
 rw [hc] at h
 cases h
theorem z4E (hP : z0n P TT) (hΔ : z0R P Δ) {ρ : Option Nat} {dp : Nat} {R : Type} {ops : Array Oper} {Q : Exit → Act → World → Prop} {r : R} {K : St → List LogE → Option R} : ∀ (l : List (Nat × Oper)) (s : St) (lg : List LogE) (a : Act) (w : World) (ι : Nat → Option Value),
  (∀ p ∈ l, ops[p.1]? = some p.2) → evOps TT Δ n.ok ops false l s lg K = some r → SRel X keep w0 n ι s a w → (∀ s' lg' a' w' ι', K s' lg' = some r → SRel X keep w0 n ι' s' a' w' → Lk ι ι' → Q .normal a' w') → wpOpsIn (WF ρ) dp P ops Q (l.map (·.1)) a w
 | [], s, lg, a, w, ι, _, hev, h, hQ => hQ s lg a w ι hev h (fun _ _ e => e)
 | (i, o) :: rest, s, lg, a, w, ι, hl, hev, h, hQ => by
  have hi : ops[i]? = some o := hl (i, o) (List.mem_cons_self ..)
  have hrest := fun p hp => hl p (List.mem_cons_of_mem _ hp)
  simp only [evOps] at hev
  split at hev
  ·rename_i hd
   have hrun : ∀ (s : St), SRel X keep w0 n ι s a w → (evOpD TT Δ false o s fun e => if updLt s.bl.length e.upd = true then evOps TT Δ n.ok ops false rest (z5a o s e) (logOf i o s e :: lg) K else none) = some r →
     Region.wanted o (yielded ops a.tmps) = true → wpOpsIn (WF ρ) dp P ops Q (((i, o) :: rest).map (·.1)) a w := by
    intro s h hev hw
    rw [evOpD_false, evOp_nat hΔ] at hev
    obtain ⟨e, he, hev⟩ := z1e hev
    split at hev
    ·rename_i hu
     rw [List.map_cons, wpOpsIn_cons]
     unfold wpOpIn
     rw [hi]
     simp only [hw, if_true]
     refine z4q (z4f he) (h.run hP hΔ hd he hu fun ι' a' w' h' hlk => ?_)
     exact z4E hP hΔ rest _ _ a' w' ι' hrest hev h' (fun s2 lg2 a2 w2 ι2 q1 q2 q3 => hQ s2 lg2 a2 w2 ι2 q1 q2 fun k v e => q3 k v (hlk k v e))
    ·cases hev
   have hskip : ∀ (s : St), SRel X keep w0 n ι s a w → evOps TT Δ n.ok ops false rest (z6I o s) lg K = some r → Region.wanted o (yielded ops a.tmps) = false → wpOpsIn (WF ρ) dp P ops Q (((i, o) :: rest).map (·.1)) a w := by
    intro s h hev hw
    rw [List.map_cons, wpOpsIn_cons]
    unfold wpOpIn
    rw [hi]
    simp only [hw]
    exact ⟨fun _ _ => trivial, z4E hP hΔ rest _ _ _ w ι hrest hev (h.skip hd) hQ⟩
   split at hev
   ·rename_i hg
    exact hrun s h hev (by simp [Region.wanted, hg])
   ·rename_i j want hg
    split at hev
    ·cases hev
    ·rename_i g hgd
     have htm := h.f.tm g
     split at hev
     ·rename_i b hb
      rw [hb, z0q] at htm
      have hy := z2P hgd htm
      have hw : Region.wanted o (yielded ops a.tmps) = (b == want) := by
       unfold Region.wanted
       rw [hg]
       simp only [hy]
       cases b <;> cases want <;> rfl
      have hk := h.known hb
      split at hev
      ·rename_i hbt
       subst hbt
       split at hev
       ·rename_i hwt
        subst hwt
        exact hrun _ hk hev (by rw [hw]; rfl)
       ·rename_i hwt
        have hwt : want = false := by simpa using hwt
        subst hwt
        exact hskip _ hk hev (by rw [hw]; rfl)
      ·rename_i hbt
       have hbt : b = false := by simpa using hbt
       subst hbt
       split at hev
       ·rename_i hwt
        subst hwt
        exact hskip _ hk hev (by rw [hw]; rfl)
       ·rename_i hwt
        have hwt : want = false := by simpa using hwt
        subst hwt
        exact hrun _ hk hev (by rw [hw]; rfl)
     ·rename_i hb
      rw [hb] at htm
      simp only [RelV] at htm
      have hy := z6W hgd htm
      exact hskip s h hev (by unfold Region.wanted; rw [hg]; simp [hy])
     ·cases hev
  ·cases hev
theorem evOps_seq (hP : z0n P TT) (hΔ : z0R P Δ) {ρ : Option Nat} {dp : Nat} {R : Type} {ops : Array Oper} {Q : Exit → Act → World → Prop} {r : R} {K : St → List LogE → Option R} (l : List (Nat × Oper)) (s : St) (lg : List LogE) (a : Act) (w : World) (ι : Nat → Option Value)
  (hl : ∀ p ∈ l, ops[p.1]? = some p.2) (hev : evOps TT Δ n.ok ops false l s lg K = some r) (h : SRel X keep w0 n ι s a w) (hQ : ∀ s' lg' a' w' ι', K s' lg' = some r → SRel X keep w0 n ι' s' a' w' → Q .normal a' w') : wpOpsIn (WF ρ) dp P ops Q (l.map (·.1)) a w :=
 z4E hP hΔ l s lg a w ι hl hev h fun s' lg' a' w' ι' h1 h2 _ => hQ s' lg' a' w' ι' h1 h2
end
end Go.Proofs.Rf
namespace Go.Proofs.Rf
open Go Go.RowKit
theorem z1r {k : Nat} : ∀ {l : List Nat}, memN k l = true ↔ k ∈ l
 | [] => by simp [memN]
 | j :: r => by
  simp only [memN, Bool.or_eq_true, List.mem_cons, z1r (l := r)]
  constructor
  ·rintro (h | h)
   ·exact .inl (Nat.eq_of_beq_eq_true h).symm
   ·exact .inr h
  ·rintro (h | h)
   ·subst h; exact .inl (Nat.beq_refl _)
   ·exact .inr h
theorem z1T : ∀ (u : List (Nat × Blk)) (C : Nat → Blk) (k : Nat), k ∉ z0J u → updC C u k = C k
 | [], _, _, _ => rfl
 | (j, b) :: r, C, k, h => by
  simp only [z0J, List.mem_cons, not_or] at h
  show updC (setC C j b) r k = C k
  rw [z1T r _ k h.2, z0f h.1]
theorem z4t : ∀ (u : List (Nat × Blk)) (C C' : Nat → Blk) (k : Nat), (C k = C' k ∨ k ∈ z0J u) → updC C u k = updC C' u k
 | [], _, _, _, h => h.resolve_right (by simp [z0J])
 | (j, b) :: r, C, C', k, h => by
  show updC (setC C j b) r k = updC (setC C' j b) r k
  apply z4t
  by_cases hk : k = j
  ·subst hk; left; rw [z0e, z0e]
  ·rw [z0f hk, z0f hk]
   refine h.imp id fun h => ?_
   simp only [z0J, List.mem_cons] at h
   exact h.resolve_left hk
theorem z1W : ∀ (new : List Blk) (C : Nat → Blk) (nb k : Nat), ¬ (nb ≤ k ∧ k < nb + new.length) → addC C nb new k = C k
 | [], _, _, _, _ => rfl
 | b :: r, C, nb, k, h => by
  show addC (setC C nb b) (nb + 1) r k = C k
  simp only [List.length_cons] at h
  rw [z1W r _ _ k (by omega), z0f (by omega)]
theorem z7s : ∀ (new : List Blk) (C C' : Nat → Blk) (nb k : Nat), (C k = C' k ∨ (nb ≤ k ∧ k < nb + new.length)) → addC C nb new k = addC C' nb new k
 | [], _, _, nb, k, h => h.resolve_right (by simp)
 | b :: r, C, C', nb, k, h => by
  show addC (setC C nb b) (nb + 1) r k = addC (setC C' nb b) (nb + 1) r k
  apply z7s
  by_cases hk : k = nb
  ·subst hk; left; rw [z0e, z0e]
  ·rw [z0f hk, z0f hk]
   simp only [List.length_cons] at h
   exact h.imp id fun h => by omega
def wrote (nb : Nat) (e : Eff) (k : Nat) : Prop := k ∈ z0J e.upd ∨ (nb ≤ k ∧ k < nb + e.new.length)
theorem z2w {C : Nat → Blk} {nb : Nat} {e : Eff} {k : Nat} (h : ¬ wrote nb e k) : effC C nb e k = C k := by
 unfold effC
 rw [z1W _ _ _ _ (fun q => h (.inr q)), z1T _ _ _ (fun q => h (.inl q))]
theorem z3n {C C' : Nat → Blk} {nb : Nat} {e : Eff} {k : Nat} (h : C k = C' k ∨ wrote nb e k) : effC C nb e k = effC C' nb e k := by
 unfold effC
 apply z7s
 rcases h with h | h | h
 ·exact .inl (z4t _ _ _ _ (.inl h))
 ·exact .inl (z4t _ _ _ _ (.inr h))
 ·exact .inr h
section
variable {X keep : Nat → Prop} {w0 w : World} {ι : Nat → Option Value} {C : Nat → Blk} {P : Program} {TT : Tab} {Δ : Nat → Option z0G} {n : z0L}
theorem z0O {ι : Nat → Option Value} {C : Nat → Blk} {k : Nat} (h : C k = .dead) : bk ι C k = [] := by unfold bk; rw [h]
def z3f (X : Nat → Prop) (ι : Nat → Option Value) (C : Nat → Blk) (m : List Nat) (b : Nat) : Prop := X b ∨ ∃ k, k ∉ m ∧ b ∈ bk ι C k
theorem z4x {m : List Nat} {C : Nat → Blk} {k : Nat} (h : k ∈ m) : resC m C k = C k := by unfold resC; rw [if_pos (z1r.2 h)]
theorem z3W {m : List Nat} {C : Nat → Blk} {k : Nat} (h : k ∉ m) : resC m C k = .dead := by unfold resC; rw [if_neg (fun q => h (z1r.1 q))]
theorem z2q {m : List Nat} {b : Nat} : owned ι (resC m C) b ↔ ∃ k, k ∈ m ∧ b ∈ bk ι C k := by
 constructor
 ·rintro ⟨k, hk⟩
  by_cases hm : k ∈ m
  ·exact ⟨k, hm, by rw [z0z (ι := ι) (C := C) (z4x hm) rfl] at hk; exact hk⟩
  ·rw [z0O (z3W hm)] at hk; cases hk
 ·rintro ⟨k, hm, hk⟩
  exact ⟨k, by rw [z0z (ι := ι) (C := C) (z4x hm) rfl]; exact hk⟩
theorem okb_res (m : List Nat) (b : Nat) : okb (z3f X ι C m) w ι (resC m C) b ↔ okb X w ι C b := by
 constructor
 ·rintro ⟨h1, h2, h3⟩
  refine ⟨h1, fun ⟨k, hk⟩ => ?_, fun hx => h3 (.inl hx)⟩
  by_cases hm : k ∈ m
  ·exact h2 (z2q.2 ⟨k, hm, hk⟩)
  ·exact h3 (.inr ⟨k, hm, hk⟩)
 ·rintro ⟨h1, h2, h3⟩
  refine ⟨h1, fun ho => ?_, ?_⟩
  ·obtain ⟨k, _, hk⟩ := z2q.1 ho
   exact h2 ⟨k, hk⟩
  ·rintro (hx | ⟨k, _, hk⟩)
   ·exact h3 hx
   ·exact h2 ⟨k, hk⟩
theorem HRel.res (h : HRel X keep w0 ι C w) (m : List Nat) : HRel (z3f X ι C m) (fun b => b < w.heap.size ∧ ¬ owned ι (resC m C) b) w ι (resC m C) w := by
 have hok : okb (z3f X ι C m) w ι (resC m C) = okb X w ι C := funext fun b => propext (okb_res m b)
 refine ⟨fun k => ?_, fun k k' b h1 h2 => ?_, Kept.refl _ _, fun b hb hk => hk.2 hb, fun b hb => hb.1, fun b hb hx => ?_, fun b hx => ?_, by rw [hok]; exact h.gl⟩
 ·rw [hok]
  by_cases hm : k ∈ m
  ·rw [z4x hm]; exact h.bl k
  ·rw [z3W hm]; trivial
 ·by_cases hm : k ∈ m
  ·by_cases hm' : k' ∈ m
   ·rw [z0z (z4x hm) rfl] at h1
    rw [z0z (z4x hm') rfl] at h2
    exact h.inj k k' b h1 h2
   ·rw [z0O (z3W hm')] at h2; cases h2
  ·rw [z0O (z3W hm)] at h1; cases h1
 ·obtain ⟨k, hm, hk⟩ := z2q.1 hb
  rcases hx with hx | ⟨k', hm', hk'⟩
  ·exact h.ox b ⟨k, hk⟩ hx
  ·exact hm' (h.inj k k' b hk hk' ▸ hm)
 ·rcases hx with hx | ⟨k', _, hk'⟩
  ·exact Nat.lt_of_lt_of_le (h.xl b hx) h.fr.size
  ·exact h.lt ⟨k', hk'⟩
theorem Out.back (h : HRel X keep w0 ι C w) {m : List Nat} {nb : Nat} {e : Eff} {v : Value} {w' : World} (hsub : ∀ k ∈ z0J e.upd, k ∈ m) (hnew : ∀ k, nb ≤ k → k < nb + e.new.length → ι k = none)
  (ho : Out (z3f X ι C m) (fun b => b < w.heap.size ∧ ¬ owned ι (resC m C) b) w ι (resC m C) w nb e v w') : Out X keep w0 ι C w nb e v w' := by
 obtain ⟨ι', H, E, V, I⟩ := ho
 have hokw : okb (z3f X ι C m) w ι (resC m C) = okb X w ι C := funext fun b => propext (okb_res m b)
 have hin : ∀ k, k ∈ m ∨ wrote nb e k → effC C nb e k = effC (resC m C) nb e k := fun k hk => z3n (hk.imp (fun q => (z4x q).symm) id)
 have hout : ∀ k, k ∉ m → ¬ wrote nb e k → effC C nb e k = C k ∧ effC (resC m C) nb e k = .dead := fun k h1 h2 => ⟨z2w h2, by rw [z2w h2, z3W h1]⟩
 have hιo : ∀ k, ¬ wrote nb e k → ι' k = ι k := fun k hk => I k (fun q => hk (.inr q))
 have hbn : ∀ k, k ∉ m → wrote nb e k → bk ι C k = [] := by
  rintro k h1 (h2 | h2)
  ·exact absurd (hsub k h2) h1
  ·unfold bk
   rw [hnew k h2.1 h2.2]
   cases C k <;> (try rfl)
   rename_i rw; cases rw <;> rfl
 have hbk : ∀ k, k ∉ m → ¬ wrote nb e k → bk ι' (effC C nb e) k = bk ι C k := fun k h1 h2 => z0z (hout k h1 h2).1 (hιo k h2)
 have hbi : ∀ k, k ∈ m ∨ wrote nb e k → bk ι' (effC C nb e) k = bk ι' (effC (resC m C) nb e) k := fun k hk => z0z (hin k hk) rfl
 have hown : ∀ b, owned ι' (effC C nb e) b ↔ owned ι' (effC (resC m C) nb e) b ∨ ∃ k, k ∉ m ∧ b ∈ bk ι C k := by
  intro b
  constructor
  ·rintro ⟨k, hk⟩
   by_cases hc : k ∈ m ∨ wrote nb e k
   ·exact .inl ⟨k, by rw [← hbi k hc]; exact hk⟩
   ·simp only [not_or] at hc
    exact .inr ⟨k, hc.1, by rw [← hbk k hc.1 hc.2]; exact hk⟩
  ·rintro (⟨k, hk⟩ | ⟨k, hm, hk⟩)
   ·by_cases hc : k ∈ m ∨ wrote nb e k
    ·exact ⟨k, by rw [hbi k hc]; exact hk⟩
    ·simp only [not_or] at hc
     rw [z0O (hout k hc.1 hc.2).2] at hk; cases hk
   ·by_cases hwr : wrote nb e k
    ·rw [hbn k hm hwr] at hk; cases hk
    ·exact ⟨k, by rw [hbk k hm hwr]; exact hk⟩
 have hok : okb (z3f X ι C m) w' ι' (effC (resC m C) nb e) = okb X w' ι' (effC C nb e) := by
  funext b
  apply propext
  constructor
  ·rintro ⟨h1, h2, h3⟩
   refine ⟨h1, fun ho => ?_, fun hx => h3 (.inl hx)⟩
   rcases (hown b).1 ho with q | q
   ·exact h2 q
   ·exact h3 (.inr q)
  ·rintro ⟨h1, h2, h3⟩
   refine ⟨h1, fun ho => h2 ((hown b).2 (.inl ho)), ?_⟩
   rintro (hx | q)
   ·exact h3 hx
   ·exact h2 ((hown b).2 (.inr q))
 have hext : Ext X ι C w ι' (effC C nb e) w' := by
  refine ⟨E.io, fun b hb => ?_, fun b hb => ?_⟩
  ·rw [← hok]; exact E.ok b (by rw [hokw]; exact hb)
  ·exact E.ce b (by rw [hokw]; exact hb)
 refine ⟨ι', ⟨fun k => ?_, fun k k' b h1 h2 => ?_, ?_, fun b hb hk => ?_, h.kl, fun b hb hx => ?_, h.xl, h.gl.ext hext⟩, hext, by rw [← hok]; exact V, I⟩
 ·by_cases hc : k ∈ m ∨ wrote nb e k
  ·rw [← hok, hin k hc]; exact H.bl k
  ·simp only [not_or] at hc
   refine z6z hext k (h.bl k) (hout k hc.1 hc.2).1 fun b hb => ?_
   refine H.fr.block b ⟨h.lt ⟨k, hb⟩, fun ho => ?_⟩ (h.lt ⟨k, hb⟩)
   obtain ⟨k', hm', hk'⟩ := z2q.1 ho
   exact hc.1 (h.inj k' k b hk' hb ▸ hm')
 ·have cross : ∀ k k', (k ∈ m ∨ wrote nb e k) → ¬ (k' ∈ m ∨ wrote nb e k') → b ∈ bk ι' (effC C nb e) k → b ∈ bk ι' (effC C nb e) k' → False := by
   intro k k' hc hc' h1 h2
   simp only [not_or] at hc'
   rw [hbi k hc] at h1
   rw [hbk k' hc'.1 hc'.2] at h2
   exact H.ox b ⟨k, h1⟩ (.inr ⟨k', hc'.1, h2⟩)
  by_cases hc : k ∈ m ∨ wrote nb e k <;> by_cases hc' : k' ∈ m ∨ wrote nb e k'
  ·exact H.inj k k' b (by rw [← hbi k hc]; exact h1) (by rw [← hbi k' hc']; exact h2)
  ·exact (cross k k' hc hc' h1 h2).elim
  ·exact (cross k' k hc' hc h2 h1).elim
  ·simp only [not_or] at hc hc'
   exact h.inj k k' b (by rw [← hbk k hc.1 hc.2]; exact h1) (by rw [← hbk k' hc'.1 hc'.2]; exact h2)
 ·refine h.fr.trans ⟨H.fr.os, H.fr.tape, H.fr.output, H.fr.size, fun b hb hl => H.fr.block b ⟨hl, fun ho => ?_⟩ hl⟩
  obtain ⟨k, _, hk'⟩ := z2q.1 ho
  exact h.own b ⟨k, hk'⟩ hb
 ·rcases (hown b).1 hb with q | ⟨k, _, hk'⟩
  ·refine H.own b q ⟨Nat.lt_of_lt_of_le (h.kl b hk) h.fr.size, fun ho => ?_⟩
   obtain ⟨k, _, hk'⟩ := z2q.1 ho
   exact h.own b ⟨k, hk'⟩ hk
  ·exact h.own b ⟨k, hk'⟩ hk
 ·rcases (hown b).1 hb with q | ⟨k, _, hk'⟩
  ·exact H.ox b q (.inl hx)
  ·exact h.ox b ⟨k, hk'⟩ hx
theorem evOp_local (hP : z0n P TT) (hΔ : z0R P Δ) {T : Nat → AV} {a : Act} (h : FRel X keep w0 n ι T C a w) {o : Oper} {l m : List Nat} {nb : Nat} {e : Eff}
  (hev : evOp TT Δ o (resT l T) (resC m C) nb (R := Eff) some = some e) (hsub : ∀ k ∈ z0J e.upd, k ∈ m) (hn : ∀ k, nb ≤ k → k < nb + e.new.length → ι k = none) {Q : Exit → Act → World → Prop} :
  o.wp P a w (fun a' w' => ∃ v, a' = a.put o.dst v ∧ Out X keep w0 ι C w nb e v w') Q := by
 have hH := h.h.res m
 have hokw : okb (z3f X ι C m) w ι (resC m C) = okb X w ι C := funext fun b => propext (okb_res m b)
 have hT : ∀ t, RelV w (okb (z3f X ι C m) w ι (resC m C)) ι (resT l T t) (a.tmps.getD t undef) := by
  intro t
  rw [hokw]
  unfold resT
  split
  ·exact h.tm t
  ·simp only [RelV]
 refine Oper.wp_mono ?_ (z7n hP hΔ hH hT hev hn (Q := Q))
 rintro a' w' ⟨v, e1, ho⟩
 exact ⟨v, e1, ho.back h.h hsub hn⟩
end
end Go.Proofs.Rf
namespace Go.Proofs.Rf
open Go Go.RowKit
structure Ent where
 i : Nat
 o : Oper
 T : Nat → AV
 C : Nat → Blk
 nb : Nat
 skip : Bool
 e : Eff
def Ent.dv (x : Ent) : AV := if x.skip = true then .ud else x.e.dst
def Ent.C' (x : Ent) : Nat → Blk := if x.skip = true then x.C else effC x.C x.nb x.e
def Ent.nb' (x : Ent) : Nat := if x.skip = true then x.nb else x.nb + x.e.new.length
def Ent.ids (x : Ent) : List Nat := touchOf x.o x.T x.C
def Ent.log (x : Ent) : LogE := ⟨x.i, x.ids, z0J x.e.upd, z0C x.nb x.e.new.length, softOf x.o⟩
def z6G (ops : Array Oper) (T : Nat → AV) (o : Oper) : Prop := o.guard = none ∨ ∃ j want g, o.guard = some (j, want) ∧ (ops[j]?).bind (·.dst) = some g ∧ T g = .d .bool want
def z4p (ops : Array Oper) (T : Nat → AV) (o : Oper) : Prop := ∃ j want g, o.guard = some (j, want) ∧ (ops[j]?).bind (·.dst) = some g ∧ (T g = .d .bool (!want) ∨ T g = .ud)
section
variable {X keep : Nat → Prop} {w0 w : World} {ι : Nat → Option Value} {C : Nat → Blk} {P : Program} {TT : Tab} {Δ : Nat → Option z0G} {n : Nat → Bool}
def Tr (TT : Tab) (Δ : Nat → Option z0G) (n : Nat → Bool) (ops : Array Oper) : List (Nat × Oper) → (Nat → AV) → (Nat → Blk) → Nat → List Ent → (Nat → AV) → (Nat → Blk) → Nat → Prop
 | [], T, C, nb, es, T', C', nb' => es = [] ∧ T' = T ∧ C' = C ∧ nb' = nb
 | p :: r, T, C, nb, es, T', C', nb' => ∃ x xs, es = x :: xs ∧ x.i = p.1 ∧ x.o = p.2 ∧ x.T = T ∧ x.C = C ∧ x.nb = nb ∧ dstOk n x.o = true ∧
   (if x.skip = true then z4p ops T x.o else z6G ops T x.o ∧ evOp TT Δ x.o (resT (z2r x.o.op.operands.toList) T) (resC x.ids C) nb (R := Eff) some = some x.e) ∧
   Tr TT Δ n ops r (effT T x.o.dst x.dv) x.C' x.nb' xs T' C' nb'
def logsOf : List Ent → List LogE
 | [] => []
 | x :: r => if x.skip = true then logsOf r else logsOf r ++ [x.log]
theorem trace (hΔ : z0R P Δ) {R : Type} {ops : Array Oper} {r : R} {K : St → List LogE → Option R} : ∀ (l : List (Nat × Oper)) (s : St) (lg : List LogE), evOps TT Δ n ops true l s lg K = some r →
  ∃ es s' , Tr TT Δ n ops l (getT s.tm) (getB s.bl) s.bl.length es (getT s'.tm) (getB s'.bl) s'.bl.length ∧ K s' (logsOf es ++ lg) = some r
 | [], s, lg, h => ⟨[], s, ⟨rfl, rfl, rfl, rfl⟩, h⟩
 | (i, o) :: rest, s, lg, hev => by
  simp only [evOps] at hev
  split at hev
  ·rename_i hd
   have hrun : ∀ (s0 : St), getT s0.tm = getT s.tm → s0.bl = s.bl → z6G ops (getT s.tm) o → (evOpD TT Δ true o s0 fun e => if updLt s0.bl.length e.upd = true then evOps TT Δ n ops true rest (z5a o s0 e) (logOf i o s0 e :: lg) K else none) = some r →
     ∃ es s' , Tr TT Δ n ops ((i, o) :: rest) (getT s.tm) (getB s.bl) s.bl.length es (getT s'.tm) (getB s'.bl) s'.bl.length ∧ K s' (logsOf es ++ lg) = some r := by
    intro s0 h1 h2 hg hev
    unfold evOpD at hev
    rw [if_pos rfl, evOp_nat hΔ] at hev
    obtain ⟨e, he, hev⟩ := z1e hev
    split at hev
    ·rename_i hu
     obtain ⟨es, s', ht, hk⟩ := trace hΔ rest _ _ hev
     rw [stepE_tm, z3O, getB_eff hu, h1] at ht
     rw [h1, h2] at he
     refine ⟨⟨i, o, getT s.tm, getB s.bl, s.bl.length, false, e⟩ :: es, s', ⟨_, _, rfl, rfl, rfl, rfl, rfl, rfl, hd, ?_, ?_⟩, ?_⟩
     ·simp only [Bool.false_eq_true, if_false]
      exact ⟨hg, he⟩
     ·rw [h2, List.length_append, z1X] at ht
      exact ht
     ·show K s' ((logsOf es ++ [_]) ++ lg) = some r
      rw [List.append_assoc]
      unfold logOf at hk
      rw [h1, h2] at hk
      exact hk
    ·cases hev
   have hskip : ∀ (s0 : St), getT s0.tm = getT s.tm → s0.bl = s.bl → z4p ops (getT s.tm) o → evOps TT Δ n ops true rest (z6I o s0) lg K = some r →
     ∃ es s' , Tr TT Δ n ops ((i, o) :: rest) (getT s.tm) (getB s.bl) s.bl.length es (getT s'.tm) (getB s'.bl) s'.bl.length ∧ K s' (logsOf es ++ lg) = some r := by
    intro s0 h1 h2 hg hev
    obtain ⟨es, s', ht, hk⟩ := trace hΔ rest _ _ hev
    rw [stepS_tm, stepS_bl, h1, h2] at ht
    exact ⟨⟨i, o, getT s.tm, getB s.bl, s.bl.length, true, ⟨.un, [], []⟩⟩ :: es, s', ⟨_, _, rfl, rfl, rfl, rfl, rfl, rfl, hd, by simp only [if_true]; exact hg, ht⟩, hk⟩
   have hknown : ∀ g b, getT s.tm g = .d .bool b → getT ((g, .d .bool b) :: s.tm) = getT s.tm := by
    intro g b hg
    rw [z2Z]
    funext t
    unfold effT
    split
    ·rename_i e
     injection e with e
     subst e
     exact hg.symm
    ·rfl
   split at hev
   ·rename_i hg
    exact hrun s rfl rfl (.inl hg) hev
   ·rename_i j want hg
    split at hev
    ·cases hev
    ·rename_i g hgd
     split at hev
     ·rename_i b hb
      split at hev
      ·rename_i hbt
       subst hbt
       split at hev
       ·rename_i hwt
        subst hwt
        exact hrun ⟨(g, .d .bool true) :: s.tm, s.bl⟩ (hknown g _ hb) rfl (.inr ⟨j, true, g, hg, hgd, hb⟩) hev
       ·rename_i hwt
        have hwt : want = false := by simpa using hwt
        subst hwt
        exact hskip ⟨(g, .d .bool true) :: s.tm, s.bl⟩ (hknown g _ hb) rfl ⟨j, false, g, hg, hgd, .inl hb⟩ hev
      ·rename_i hbt
       have hbt : b = false := by simpa using hbt
       subst hbt
       split at hev
       ·rename_i hwt
        subst hwt
        exact hskip ⟨(g, .d .bool false) :: s.tm, s.bl⟩ (hknown g _ hb) rfl ⟨j, true, g, hg, hgd, .inl hb⟩ hev
       ·rename_i hwt
        have hwt : want = false := by simpa using hwt
        subst hwt
        exact hrun ⟨(g, .d .bool false) :: s.tm, s.bl⟩ (hknown g _ hb) rfl (.inr ⟨j, false, g, hg, hgd, hb⟩) hev
     ·rename_i hb
      exact hskip s rfl rfl ⟨j, want, g, hg, hgd, .inr hb⟩ hev
     ·cases hev
  ·cases hev
def selT (S : Nat → Bool) : List Ent → (Nat → AV) → Nat → AV
 | [], T => T
 | x :: r, T => selT S r (if S x.i = true then effT T x.o.dst x.dv else T)
def selC (S : Nat → Bool) : List Ent → (Nat → Blk) → Nat → Blk
 | [], C => C
 | x :: r, C => selC S r (if S x.i = true ∧ x.skip = false then effC C x.nb x.e else C)
theorem z2l {S S' : Nat → Bool} {t : Nat} : ∀ (es : List Ent) (T T' : Nat → AV), T t = T' t → (∀ x ∈ es, x.o.dst = some t → S x.i = S' x.i) → selT S es T t = selT S' es T' t
 | [], _, _, h, _ => h
 | x :: r, T, T', h, hs => by
  refine z2l r _ _ ?_ (fun y hy => hs y (List.mem_cons_of_mem _ hy))
  have h1 := hs x (List.mem_cons_self ..)
  by_cases hd : x.o.dst = some t
  ·rw [h1 hd]
   split
   ·simp only [effT, hd, if_true]
   ·exact h
  ·have e1 : ∀ T : Nat → AV, effT T x.o.dst x.dv t = T t := fun T => by simp only [effT, hd, if_false]
   split <;> split <;> simp only [e1, h]
theorem z1z {S S' : Nat → Bool} {k : Nat} : ∀ (es : List Ent) (C C' : Nat → Blk), C k = C' k → (∀ x ∈ es, x.skip = false → wrote x.nb x.e k → S x.i = S' x.i) → selC S es C k = selC S' es C' k
 | [], _, _, h, _ => h
 | x :: r, C, C', h, hs => by
  refine z1z r _ _ ?_ (fun y hy => hs y (List.mem_cons_of_mem _ hy))
  have h1 := hs x (List.mem_cons_self ..)
  by_cases hk : x.skip = false
  ·by_cases hd : wrote x.nb x.e k
   ·rw [h1 hk hd]
    split
    ·exact z3n (.inr hd)
    ·exact h
   ·have e1 : ∀ C : Nat → Blk, effC C x.nb x.e k = C k := fun C => z2w hd
    split <;> split <;> simp only [e1, h]
  ·rw [if_neg (fun q => hk q.2), if_neg (fun q => hk q.2)]
   exact h
theorem z3R {S : Nat → Bool} {t : Nat} : ∀ (es : List Ent) (T : Nat → AV), (∀ x ∈ es, x.o.dst = some t → S x.i = false) → selT S es T t = T t
 | [], _, _ => rfl
 | x :: r, T, h => by
  show selT S r _ t = T t
  rw [z3R r _ (fun y hy => h y (List.mem_cons_of_mem _ hy))]
  split
  ·rename_i hs
   by_cases hd : x.o.dst = some t
   ·rw [h x (List.mem_cons_self ..) hd] at hs; cases hs
   ·simp only [effT, hd, if_false]
  ·rfl
theorem z2m {S : Nat → Bool} {k : Nat} : ∀ (es : List Ent) (C : Nat → Blk), (∀ x ∈ es, x.skip = false → wrote x.nb x.e k → S x.i = false) → selC S es C k = C k
 | [], _, _ => rfl
 | x :: r, C, h => by
  show selC S r _ k = C k
  rw [z2m r _ (fun y hy => h y (List.mem_cons_of_mem _ hy))]
  split
  ·rename_i hs
   by_cases hd : wrote x.nb x.e k
   ·rw [h x (List.mem_cons_self ..) hs.2 hd] at hs; cases hs.1
   ·exact z2w hd
  ·rfl
theorem z3J (S : Nat → Bool) : ∀ (es fs : List Ent) (T : Nat → AV), selT S (es ++ fs) T = selT S fs (selT S es T)
 | [], _, _ => rfl
 | _ :: r, fs, _ => z3J S r fs _
theorem z2a (S : Nat → Bool) : ∀ (es fs : List Ent) (C : Nat → Blk), selC S (es ++ fs) C = selC S fs (selC S es C)
 | [], _, _ => rfl
 | _ :: r, fs, _ => z2a S r fs _
structure EntsOK (TT : Tab) (Δ : Nat → Option z0G) (n : Nat → Bool) (ops : Array Oper) (i0 : Nat) (T : Nat → AV) (C : Nat → Blk) (nb : Nat) (es : List Ent) : Prop where
 split : ∀ x es1 es2, es = es1 ++ x :: es2 → x.T = selT (fun _ => true) es1 T ∧ x.C = selC (fun _ => true) es1 C ∧ x.i = i0 + es1.length ∧ nb ≤ x.nb ∧ dstOk n x.o = true ∧
  (∀ y ∈ es1, y.i < x.i ∧ y.nb' ≤ x.nb) ∧ (∀ y ∈ es2, x.i < y.i ∧ x.nb' ≤ y.nb) ∧
  (if x.skip = true then z4p ops x.T x.o else z6G ops x.T x.o ∧ evOp TT Δ x.o (resT (z2r x.o.op.operands.toList) x.T) (resC x.ids x.C) x.nb (R := Eff) some = some x.e)
theorem Ent.nb_le (x : Ent) : x.nb ≤ x.nb' := by unfold Ent.nb'; split <;> omega
theorem Tr.ents {ops : Array Oper} : ∀ (l : List Oper) (i0 : Nat) (T : Nat → AV) (C : Nat → Blk) (nb : Nat) (es : List Ent) (T' : Nat → AV) (C' : Nat → Blk) (nb' : Nat), Tr TT Δ n ops (zipN i0 l) T C nb es T' C' nb' →
  EntsOK TT Δ n ops i0 T C nb es ∧ es.map (·.o) = l ∧ T' = selT (fun _ => true) es T ∧ C' = selC (fun _ => true) es C ∧ nb ≤ nb' ∧ ∀ y ∈ es, i0 ≤ y.i ∧ nb ≤ y.nb ∧ y.nb' ≤ nb'
 | [], i0, T, C, nb, es, T', C', nb', h => by
  obtain ⟨rfl, rfl, rfl, rfl⟩ := h
  exact ⟨⟨fun x es1 es2 h => by simp at h⟩, rfl, rfl, rfl, Nat.le_refl _, by simp⟩
 | o :: r, i0, T, C, nb, es, T', C', nb', h => by
  obtain ⟨x, xs, rfl, h1, h2, h3, h4, h5, h6, h7, h8⟩ := h
  obtain ⟨k1, k2, k3, k4, k5, k6⟩ := Tr.ents r (i0 + 1) _ _ _ xs T' C' nb' h8
  have hx := x.nb_le
  have eT : (if (fun _ => true) x.i = true then effT T x.o.dst x.dv else T) = effT T x.o.dst x.dv := by simp
  have eC : (if (fun _ => true) x.i = true ∧ x.skip = false then effC C x.nb x.e else C) = x.C' := by
   unfold Ent.C'
   cases hsk : x.skip
   ·simp [h4]
   ·simp [h4]
  refine ⟨⟨fun y es1 es2 he => ?_⟩, by rw [List.map_cons, k2, h2], ?_, ?_, by omega, ?_⟩
  ·cases es1 with
   | nil =>
    simp only [List.nil_append, List.cons.injEq] at he
    obtain ⟨rfl, rfl⟩ := he
    refine ⟨h3, h4, h1, by omega, h6, by simp, fun y hy => ?_, ?_⟩
    ·obtain ⟨q1, q2, _⟩ := k6 y hy
     rw [h1]
     exact ⟨q1, q2⟩
    ·rw [h3, h4, h5]; exact h7
   | cons z es1 =>
    simp only [List.cons_append, List.cons.injEq] at he
    obtain ⟨rfl, rfl⟩ := he
    obtain ⟨q1, q2, q3, q4, q5, q6, q7, q8⟩ := k1.split y es1 es2 rfl
    refine ⟨?_, ?_, by rw [q3, List.length_cons]; omega, by omega, q5, fun u hu => ?_, q7, q8⟩
    ·rw [q1]; show _ = selT _ es1 _; rw [eT]
    ·rw [q2]; show _ = selC _ es1 _; rw [eC]
    ·rcases List.mem_cons.1 hu with rfl | hu
     ·rw [h1, q3]; exact ⟨by omega, q4⟩
     ·exact q6 u hu
  ·rw [k3]; show _ = selT _ xs _; rw [eT]
  ·rw [k4]; show _ = selC _ xs _; rw [eC]
  ·intro y hy
   rcases List.mem_cons.1 hy with rfl | hy
   ·exact ⟨by rw [h1]; exact Nat.le_refl _, by omega, k5⟩
   ·obtain ⟨q1, q2, q3⟩ := k6 y hy
    exact ⟨by omega, by omega, q3⟩
end
end Go.Proofs.Rf
namespace Go.Proofs.Rf
open Go Go.RowKit
theorem z5L {acc : List Nat} {j : Nat} : ∀ (es : List Edge), (predsOf acc es).testBit j = true ↔ ∃ e ∈ es, Region.binds .any e = true ∧ (e.on = j ∨ (acc.getD e.on 0).testBit j = true)
 | [] => by simp [predsOf]
 | e :: r => by
  have ih := z5L (acc := acc) (j := j) r
  unfold predsOf
  by_cases hb : Region.binds .any e = true
  ·rw [if_pos hb, Nat.testBit_or, Nat.testBit_or, Bool.or_eq_true, Bool.or_eq_true, ih, Nat.testBit_two_pow]
   constructor
   ·rintro ((⟨e', h1, h2⟩ | h) | h)
    ·exact ⟨e', List.mem_cons_of_mem _ h1, h2⟩
    ·exact ⟨e, List.mem_cons_self .., hb, .inl (by simpa using h)⟩
    ·exact ⟨e, List.mem_cons_self .., hb, .inr h⟩
   ·rintro ⟨e', h1, h2, h3⟩
    rcases List.mem_cons.1 h1 with rfl | h1
    ·rcases h3 with h3 | h3
     ·exact .inl (.inr (by simpa using h3))
     ·exact .inr h3
    ·exact .inl (.inl ⟨e', h1, h2, h3⟩)
  ·rw [if_neg hb, ih]
   constructor
   ·rintro ⟨e', h1, h2⟩
    exact ⟨e', List.mem_cons_of_mem _ h1, h2⟩
   ·rintro ⟨e', h1, h2, h3⟩
    rcases List.mem_cons.1 h1 with rfl | h1
    ·exact absurd h2 hb
    ·exact ⟨e', h1, h2, h3⟩
theorem z2W : ∀ (l : List Oper) (acc : List Nat), ∃ r, masks l acc = acc ++ r ∧ r.length = l.length
 | [], acc => ⟨[], by simp [masks], rfl⟩
 | o :: l, acc => by
  obtain ⟨r, h1, h2⟩ := z2W l (acc ++ [predsOf acc o.after.toList])
  exact ⟨predsOf acc o.after.toList :: r, by rw [masks, h1]; simp, by simp [h2]⟩
theorem masks_at : ∀ (l : List Oper) (acc : List Nat) (k : Nat) (o : Oper), l[k]? = some o → (masks l acc).getD (acc.length + k) 0 = predsOf ((masks l acc).take (acc.length + k)) o.after.toList
 | [], _, k, _, h => by simp at h
 | o' :: l, acc, 0, o, h => by
  simp only [List.getElem?_cons_zero, Option.some.injEq] at h
  subst h
  obtain ⟨r, h1, _⟩ := z2W l (acc ++ [predsOf acc o'.after.toList])
  rw [masks, h1, Nat.add_zero, List.append_assoc]
  simp
 | o' :: l, acc, k + 1, o, h => by
  have := masks_at l (acc ++ [predsOf acc o'.after.toList]) k o (by simpa using h)
  rw [List.length_append, List.length_singleton, Nat.add_assoc, Nat.add_comm 1 k] at this
  exact this
def PB (ops : Array Oper) (d j : Nat) : Prop := ((masks ops.toList []).getD d 0).testBit j = true
theorem z2x : ∀ (l : List Oper) (i k : Nat) (o : Oper), edgesOk i l = true → l[k]? = some o → ∀ e ∈ o.after.toList, Region.binds .any e = true → e.on < i + k
 | [], _, _, _, _, h, _, _, _ => by simp at h
 | o' :: l, i, 0, o, he, h, e, hm, hb => by
  simp only [List.getElem?_cons_zero, Option.some.injEq] at h
  subst h
  simp only [edgesOk, Bool.and_eq_true, List.all_eq_true] at he
  have := he.1 e hm
  simp only [hb, Bool.not_true, Bool.false_or] at this
  exact Nat.le_of_ble_eq_true this
 | o' :: l, i, k + 1, o, he, h, e, hm, hb => by
  simp only [edgesOk, Bool.and_eq_true] at he
  have := z2x l (i + 1) k o he.2 (by simpa using h) e hm hb
  omega
section
variable {ops : Array Oper} (hE : edgesOk 0 ops.toList = true)
include hE
theorem PB_iff {d : Nat} {o : Oper} (ho : ops[d]? = some o) (j : Nat) : PB ops d j ↔ ∃ e ∈ o.after.toList, Region.binds .any e = true ∧ (e.on = j ∨ PB ops e.on j) := by
 have ho' : ops.toList[d]? = some o := by rw [Array.getElem?_toList]; exact ho
 unfold PB
 have h1 := masks_at ops.toList [] d o ho'
 simp only [List.length_nil, Nat.zero_add] at h1
 rw [h1, z5L]
 constructor
 ·rintro ⟨e, h2, h3, h4⟩
  have hlt := z2x ops.toList 0 d o hE ho' e h2 h3
  refine ⟨e, h2, h3, h4.imp id fun h => ?_⟩
  rwa [List.getD_eq_getElem?_getD, List.getElem?_take, if_pos (by omega), ← List.getD_eq_getElem?_getD] at h
 ·rintro ⟨e, h2, h3, h4⟩
  have hlt := z2x ops.toList 0 d o hE ho' e h2 h3
  refine ⟨e, h2, h3, h4.imp id fun h => ?_⟩
  rwa [List.getD_eq_getElem?_getD, List.getElem?_take, if_pos (by omega), ← List.getD_eq_getElem?_getD]
theorem PB_lt : ∀ (m d j : Nat), d ≤ m → PB ops d j → j < d
 | m, d, j, hm, h => by
  by_cases hd : d < ops.size
  ·obtain ⟨o, ho⟩ : ∃ o, ops[d]? = some o := ⟨ops[d], Array.getElem?_eq_getElem hd⟩
   obtain ⟨e, h1, h2, h3⟩ := (PB_iff hE ho j).1 h
   have hlt := z2x ops.toList 0 d o hE (by rw [Array.getElem?_toList]; exact ho) e h1 h2
   rcases h3 with rfl | h3
   ·omega
   ·cases m with
    | zero => omega
    | succ m =>
     have := PB_lt m e.on j (by omega) h3
     omega
  ·unfold PB at h
   obtain ⟨r, h1, h2⟩ := z2W ops.toList []
   rw [List.getD_eq_getElem?_getD, List.getElem?_eq_none (by rw [h1]; simp [h2]; omega)] at h
   simp at h
end
def Shut (ops : Array Oper) (S : Nat → Bool) : Prop := ∀ d j, S d = true → PB ops d j → S j = true
theorem z5U {B : List Nat} {lg : List LogE} {a : LogE} : ∀ {l : List LogE}, logOk1 B lg a l = true → ∀ b ∈ l, z4k a b = true ∨ waits B a.i b.i = true ∨ z4u lg a b = true ∨ z4u lg b a = true
 | [], _, b, h => by simp at h
 | c :: r, hl, b, h => by
  simp only [logOk1, Bool.and_eq_true, Bool.or_eq_true] at hl
  rcases List.mem_cons.1 h with rfl | h
  ·exact hl.1
  ·exact z5U hl.2 b h
theorem z1n {l m : List Nat} (h : meetN l m = false) : ∀ k ∈ l, k ∉ m := by
 induction l with
 | nil => simp
 | cons j r ih =>
  simp only [meetN, Bool.or_eq_false_iff] at h
  intro k hk
  rcases List.mem_cons.1 hk with rfl | hk
  ·intro hm
   rw [z1r.2 hm] at h
   cases h.1
  ·exact ih h.2 k hk
theorem apartL_symm {a b : LogE} (h : z4k a b = true) : z4k b a = true := by
 unfold z4k at h ⊢
 rw [Bool.and_comm]
 exact h
theorem z6Y {B : List Nat} {i j : Nat} (h : waits B i j = true) : waits B j i = true := by
 unfold waits at h ⊢
 rw [Bool.or_comm]
 exact h
theorem logOk_at {B : List Nat} {lg : List LogE} : ∀ {l : List LogE}, logOk B lg l = true → (∀ a ∈ l, subN a.wr a.touch = true) ∧ ∀ a ∈ l, ∀ b ∈ l, a = b ∨ z4k a b = true ∨ waits B a.i b.i = true ∨ z4u lg a b = true ∨ z4u lg b a = true
 | [], _ => by simp
 | c :: r, h => by
  simp only [logOk, Bool.and_eq_true] at h
  obtain ⟨h1, h2⟩ := logOk_at h.2
  refine ⟨fun a ha => ?_, fun a ha b hb => ?_⟩
  ·rcases List.mem_cons.1 ha with rfl | ha
   ·exact h.1.1
   ·exact h1 a ha
  ·rcases List.mem_cons.1 ha with rfl | ha' <;> rcases List.mem_cons.1 hb with rfl | hb'
   ·exact .inl rfl
   ·exact .inr (z5U h.1.2 b hb')
   ·exact .inr ((z5U h.1.2 a ha').imp apartL_symm fun q => q.imp z6Y Or.symm)
   ·exact h2 a ha' b hb'
theorem noneN_iff {l : List Nat} (h : noneN l = true) : l = [] := by cases l <;> first | rfl | cases h
theorem z6l {a b : LogE} : ∀ {l : List LogE}, betweenL a b l = true → ∀ z ∈ l, a.i < z.i → z.i < b.i → meetN (z.wr ++ z.new) a.touch = false
 | [], _, z, h, _, _ => by simp at h
 | c :: r, hl, z, h, h1, h2 => by
  simp only [betweenL, Bool.and_eq_true, Bool.not_eq_true', Bool.and_eq_false_iff] at hl
  rcases List.mem_cons.1 h with rfl | h
  ·rcases hl.1 with q | q | q
   ·have h1 : Nat.blt a.i z.i = true := Nat.ble_eq_true_of_le h1
    rw [q] at h1; cases h1
   ·have h2 : Nat.blt z.i b.i = true := Nat.ble_eq_true_of_le h2
    rw [q] at h2; cases h2
   ·exact q
  ·exact z6l hl.2 z h h1 h2
theorem z3i {lg : List LogE} {a b : LogE} (h : z4u lg a b = true) : a.soft = 1 ∧ b.soft = 2 ∧ a.i < b.i ∧ a.wr = [] ∧ a.new = [] ∧ meetN b.new a.touch = false ∧ ∀ z ∈ lg, a.i < z.i → z.i < b.i → meetN (z.wr ++ z.new) a.touch = false := by
 simp only [z4u, Bool.and_eq_true, Bool.not_eq_true'] at h
 obtain ⟨h1, h2, h3, h4, h5, h6, h7⟩ := h
 exact ⟨Nat.eq_of_beq_eq_true h1, Nat.eq_of_beq_eq_true h2, Nat.le_of_ble_eq_true h3, noneN_iff h4, noneN_iff h5, h6, z6l h7⟩
theorem subN_iff : ∀ {l m : List Nat}, subN l m = true → ∀ k ∈ l, k ∈ m
 | [], _, _, k, h => by simp at h
 | j :: r, m, hs, k, h => by
  simp only [subN, Bool.and_eq_true] at hs
  rcases List.mem_cons.1 h with rfl | h
  ·exact z1r.1 hs.1
  ·exact subN_iff hs.2 k h
theorem z2s : ∀ {m a k : Nat}, k ∈ z0C a m ↔ a ≤ k ∧ k < a + m
 | 0, a, k => by simp [z0C]
 | m + 1, a, k => by
  simp only [z0C, List.mem_cons, z2s (m := m)]
  omega
theorem z1B {x : Ent} : ∀ {es : List Ent}, x ∈ es → x.skip = false → x.log ∈ logsOf es
 | [], h, _ => by simp at h
 | y :: r, h, hs => by
  unfold logsOf
  rcases List.mem_cons.1 h with rfl | h
  ·rw [if_neg (by simp [hs])]
   exact List.mem_append_right _ (List.mem_singleton.2 rfl)
  ·split
   ·exact z1B h hs
   ·exact List.mem_append_left _ (z1B h hs)
theorem z7b {ops : Array Oper} {B : List Nat} {i : Nat} {x : Oper} : ∀ (l : List Oper) (j k : Nat) (y : Oper), z5n ops B i x j l = true → l[k]? = some y → waits B i (j + k) = true ∨ x.apart ops y = true
 | [], _, _, _, _, h => by simp at h
 | y' :: l, j, 0, y, ht, h => by
  simp only [List.getElem?_cons_zero, Option.some.injEq] at h
  subst h
  simp only [z5n, Bool.and_eq_true, Bool.or_eq_true] at ht
  exact ht.1
 | y' :: l, j, k + 1, y, ht, h => by
  simp only [z5n, Bool.and_eq_true] at ht
  have := z7b l (j + 1) k y ht.2 (by simpa using h)
  rwa [show j + (k + 1) = j + 1 + k by omega]
theorem z5m {ops : Array Oper} {B : List Nat} : ∀ (l : List Oper) (i k k' : Nat) (x y : Oper), z7c ops B i l = true → k < k' → l[k]? = some x → l[k']? = some y → waits B (i + k) (i + k') = true ∨ x.apart ops y = true
 | [], _, _, _, _, _, _, _, h, _ => by simp at h
 | x' :: l, i, 0, k', x, y, ht, hlt, hx, hy => by
  simp only [List.getElem?_cons_zero, Option.some.injEq] at hx
  subst hx
  simp only [z7c, Bool.and_eq_true] at ht
  obtain ⟨m, rfl⟩ : ∃ m, k' = m + 1 := ⟨k' - 1, by omega⟩
  have := z7b l (i + 1) m y ht.1 (by simpa using hy)
  rwa [Nat.add_zero, show i + (m + 1) = i + 1 + m by omega]
 | x' :: l, i, k + 1, k', x, y, ht, hlt, hx, hy => by
  simp only [z7c, Bool.and_eq_true] at ht
  obtain ⟨m, rfl⟩ : ∃ m, k' = m + 1 := ⟨k' - 1, by omega⟩
  have := z5m l (i + 1) k m x y ht.2 (by omega) (by simpa using hx) (by simpa using hy)
  rwa [show i + (k + 1) = i + 1 + k by omega, show i + (m + 1) = i + 1 + m by omega]
theorem z7q {ops : Array Oper} {x y : Oper} (h : x.apart ops y = true ∨ y.apart ops x = true) : ∀ d, x.dst = some d → d ∉ y.looksAt ops ∧ y.dst ≠ some d := by
 intro d hd
 rcases h with h | h
 ·obtain ⟨h1, h2, h3⟩ := Oper.apart_spec h
  exact ⟨h1 d hd, h2 d hd⟩
 ·obtain ⟨h1, h2, h3⟩ := Oper.apart_spec h
  exact ⟨h3 d hd, fun e => h2 d e hd⟩
theorem z2t {t : Nat} : ∀ {l : List Operand}, t ∈ z2r l → Operand.tmp t ∈ l
 | [], h => by simp [z2r] at h
 | .tmp u :: r, h => by
  simp only [z2r, List.mem_cons] at h
  rcases h with rfl | h
  ·exact List.mem_cons_self ..
  ·exact List.mem_cons_of_mem _ (z2t h)
 | .const _ :: r, h => List.mem_cons_of_mem _ (z2t (l := r) h)
 | .global _ :: r, h => List.mem_cons_of_mem _ (z2t (l := r) h)
 | .func _ :: r, h => List.mem_cons_of_mem _ (z2t (l := r) h)
theorem looks_op {ops : Array Oper} {o : Oper} {t : Nat} (h : t ∈ z2r o.op.operands.toList) : t ∈ o.looksAt ops := by
 unfold Oper.looksAt
 exact List.mem_append_left _ (List.mem_filterMap.2 ⟨.tmp t, z2t h, rfl⟩)
theorem looks_guard {ops : Array Oper} {o : Oper} {j g : Nat} {want : Bool} (h : o.guard = some (j, want)) (hg : (ops[j]?).bind (·.dst) = some g) : g ∈ o.looksAt ops := by
 unfold Oper.looksAt
 rw [h]
 exact List.mem_append_right _ (by simp [hg])
end Go.Proofs.Rf
namespace Go.Proofs.Rf
open Go Go.RowKit
section
variable {X keep : Nat → Prop} {w0 w : World} {ι : Nat → Option Value} {C : Nat → Blk} {P : Program} {TT : Tab} {Δ : Nat → Option z0G} {n : z0L} {no : Nat → Bool}
theorem wanted_on {ops : Array Oper} {T : Nat → AV} {a : Act} {okb : Nat → Prop} {o : Oper} (hT : ∀ t, RelV w okb ι (T t) (a.tmps.getD t undef)) (h : z6G ops T o) : Region.wanted o (yielded ops a.tmps) = true := by
 rcases h with h | ⟨j, want, g, hg, hgd, hb⟩
 ·simp [Region.wanted, h]
 ·have htm := hT g
  rw [hb, z0q] at htm
  have hy := z2P hgd htm
  unfold Region.wanted
  rw [hg]
  simp only [hy]
  cases want <;> rfl
theorem wanted_off {ops : Array Oper} {T : Nat → AV} {a : Act} {okb : Nat → Prop} {o : Oper} (hT : ∀ t, RelV w okb ι (T t) (a.tmps.getD t undef)) (h : z4p ops T o) : Region.wanted o (yielded ops a.tmps) = false := by
 obtain ⟨j, want, g, hg, hgd, hb⟩ := h
 have htm := hT g
 rcases hb with hb | hb
 ·rw [hb, z0q] at htm
  have hy := z2P hgd htm
  unfold Region.wanted
  rw [hg]
  simp only [hy]
  cases want <;> rfl
 ·rw [hb] at htm
  simp only [RelV] at htm
  have hy := z6W hgd htm
  unfold Region.wanted
  rw [hg]
  simp [hy]
structure z1h (TT : Tab) (Δ : Nat → Option z0G) (n : Nat → Bool) (ops : Array Oper) (T0 : Nat → AV) (C0 : Nat → Blk) (nb0 : Nat) (es : List Ent) : Prop where
 ents : EntsOK TT Δ n ops 0 T0 C0 nb0 es
 map : es.map (·.o) = ops.toList
 hE : edgesOk 0 ops.toList = true
 hT : z7c ops (masks ops.toList []) 0 ops.toList = true
 hL : logOk (masks ops.toList []) (logsOf es) (logsOf es) = true
theorem waits_iff {ops : Array Oper} {i j : Nat} : waits (masks ops.toList []) i j = true ↔ PB ops j i ∨ PB ops i j := by
 unfold waits PB
 rw [Bool.or_eq_true]
namespace z1h
variable {ops : Array Oper} {T0 : Nat → AV} {C0 : Nat → Blk} {nb0 : Nat} {es : List Ent}
theorem len (D : z1h TT Δ no ops T0 C0 nb0 es) : es.length = ops.size := by
 rw [← Array.length_toList, ← D.map, List.length_map]
theorem idx (D : z1h TT Δ no ops T0 C0 nb0 es) {y : Ent} (hy : y ∈ es) : ops[y.i]? = some y.o ∧ y.i < ops.size := by
 obtain ⟨es1, es2, rfl⟩ := List.append_of_mem hy
 obtain ⟨_, _, hi, _⟩ := D.ents.split y es1 es2 rfl
 rw [Nat.zero_add] at hi
 have h1 : ops.toList[y.i]? = some y.o := by
  rw [← D.map, hi]
  simp
 rw [Array.getElem?_toList] at h1
 exact ⟨h1, (Array.getElem?_eq_some_iff.1 h1).1⟩
theorem other (D : z1h TT Δ no ops T0 C0 nb0 es) {S : Nat → Bool} (hS : Shut ops S) {x y : Ent} (hj : S x.i = false) (hr : ∀ k, PB ops x.i k → S k = true)
  (h : y.i = x.i ∨ waits (masks ops.toList []) x.i y.i = true) : S y.i = Nat.blt y.i x.i := by
 rcases h with h | h
 ·rw [h, hj]
  symm
  exact Bool.eq_false_iff.2 fun e => Nat.lt_irrefl _ (Nat.le_of_ble_eq_true e)
 ·rcases waits_iff.1 h with h | h
  ·have hlt := PB_lt D.hE _ _ _ (Nat.le_refl _) h
   have hs : S y.i = false := by
    cases hs : S y.i with
    | false => rfl
    | true => rw [hS _ _ hs h] at hj; cases hj
   rw [hs]
   symm
   exact Bool.eq_false_iff.2 fun e => by have := Nat.le_of_ble_eq_true e; omega
  ·have hlt := PB_lt D.hE _ _ _ (Nat.le_refl _) h
   rw [hr _ h]
   symm
   exact Nat.ble_eq_true_of_le hlt
theorem later (D : z1h TT Δ no ops T0 C0 nb0 es) {S : Nat → Bool} (hS : Shut ops S) {x y : Ent} (hlt : x.i < y.i) (hj : S x.i = false)
  (h : waits (masks ops.toList []) x.i y.i = true) : S y.i = false := by
 rcases waits_iff.1 h with h | h
 ·cases hs : S y.i with
  | false => rfl
  | true => rw [hS _ _ hs h] at hj; cases hj
 ·have := PB_lt D.hE _ _ _ (Nat.le_refl _) h
  omega
theorem tmp2 (D : z1h TT Δ no ops T0 C0 nb0 es) {x y : Ent} (hx : x ∈ es) (hy : y ∈ es) : y.i = x.i ∨ waits (masks ops.toList []) x.i y.i = true ∨ (x.o.apart ops y.o = true ∨ y.o.apart ops x.o = true) := by
 have h1 := (D.idx hx).1
 have h2 := (D.idx hy).1
 rw [← Array.getElem?_toList] at h1 h2
 rcases Nat.lt_trichotomy y.i x.i with h | h | h
 ·have := z5m ops.toList 0 y.i x.i _ _ D.hT h h2 h1
  rw [Nat.zero_add, Nat.zero_add] at this
  exact .inr (this.imp z6Y .inr)
 ·exact .inl h
 ·have := z5m ops.toList 0 x.i y.i _ _ D.hT h h1 h2
  rw [Nat.zero_add, Nat.zero_add] at this
  exact .inr (this.imp id .inl)
theorem selTb (D : z1h TT Δ no ops T0 C0 nb0 es) {x : Ent} (hx : x ∈ es) : x.T = selT (fun i => Nat.blt i x.i) es T0 ∧ x.C = selC (fun i => Nat.blt i x.i) es C0 := by
 obtain ⟨es1, es2, rfl⟩ := List.append_of_mem hx
 obtain ⟨h1, h2, h3, _, _, h6, h7, _⟩ := D.ents.split x es1 es2 rfl
 have hb : ∀ y ∈ es1, Nat.blt y.i x.i = true := fun y hy => Nat.ble_eq_true_of_le (h6 y hy).1
 have ha : ∀ y ∈ x :: es2, Nat.blt y.i x.i = false := by
  intro y hy
  refine Bool.eq_false_iff.2 fun e => ?_
  have e := Nat.le_of_ble_eq_true e
  rcases List.mem_cons.1 hy with rfl | hy
  ·omega
  ·have := (h7 y hy).1; omega
 constructor
 ·funext t
  rw [h1, z3J, z3R (x :: es2) _ (fun y hy _ => ha y hy)]
  exact z2l es1 _ _ rfl (fun y hy _ => (hb y hy).symm)
 ·funext k
  rw [h2, z2a, z2m (x :: es2) _ (fun y hy _ _ => ha y hy)]
  exact z1z es1 _ _ rfl (fun y hy _ _ => (hb y hy).symm)
theorem lookT (D : z1h TT Δ no ops T0 C0 nb0 es) {S : Nat → Bool} (hS : Shut ops S) {x : Ent} (hx : x ∈ es) (hj : S x.i = false) (hr : ∀ k, PB ops x.i k → S k = true) {t : Nat} (ht : t ∈ x.o.looksAt ops) : selT S es T0 t = x.T t := by
 rw [(D.selTb hx).1]
 refine z2l es _ _ rfl fun y hy hd => D.other hS hj hr ?_
 rcases D.tmp2 hx hy with h | h | h
 ·exact .inl h
 ·exact .inr h
 ·exact absurd ht (z7q h.symm t hd).1
theorem log2 (D : z1h TT Δ no ops T0 C0 nb0 es) {x y : Ent} (hx : x ∈ es) (hy : y ∈ es) (hsx : x.skip = false) (hsy : y.skip = false) : y.i = x.i ∨ waits (masks ops.toList []) x.i y.i = true ∨ z4k x.log y.log = true ∨ z4u (logsOf es) x.log y.log = true ∨ z4u (logsOf es) y.log x.log = true := by
 rcases (logOk_at D.hL).2 _ (z1B hx hsx) _ (z1B hy hsy) with h | h | h | h | h
 ·left
  exact (congrArg LogE.i h).symm
 ·exact .inr (.inr (.inl h))
 ·exact .inr (.inl h)
 ·exact .inr (.inr (.inr (.inl h)))
 ·exact .inr (.inr (.inr (.inr h)))
theorem z2k {x y : Ent} (h : z4u (logsOf es) x.log y.log = true) (k : Nat) : ¬ wrote x.nb x.e k := by
 obtain ⟨_, _, _, h1, h2, _⟩ := z3i h
 rintro (q | q)
 ·have h1 : z0J x.e.upd = [] := h1
  rw [h1] at q
  cases q
 ·have h2 : z0C x.nb x.e.new.length = [] := h2
  have : k ∈ z0C x.nb x.e.new.length := z2s.2 q
  rw [h2] at this
  cases this
theorem sub (D : z1h TT Δ no ops T0 C0 nb0 es) {x : Ent} (hx : x ∈ es) (hsx : x.skip = false) : ∀ k ∈ z0J x.e.upd, k ∈ x.ids := subN_iff ((logOk_at D.hL).1 _ (z1B hx hsx))
theorem z3N {y : Ent} {k : Nat} (h : wrote y.nb y.e k) : k ∈ y.log.wr ++ y.log.new := by
 rw [List.mem_append]
 exact h.imp id fun h => z2s.2 h
theorem z4K {x y : Ent} (h : z4k x.log y.log = true) : (∀ k, wrote x.nb x.e k → k ∉ y.log.touch ++ y.log.new) ∧ ∀ k, wrote y.nb y.e k → k ∉ x.log.touch ++ x.log.new := by
 unfold z4k at h
 rw [Bool.and_eq_true, Bool.not_eq_true', Bool.not_eq_true'] at h
 exact ⟨fun k hk => z1n h.1 k (z3N hk), fun k hk => z1n h.2 k (z3N hk)⟩
theorem same (D : z1h TT Δ no ops T0 C0 nb0 es) {x y : Ent} (hx : x ∈ es) (hy : y ∈ es) (h : y.i = x.i) : y = x := by
 have h2 : ∀ {z : Ent}, z ∈ es → es[z.i]? = some z := by
  intro z hz
  obtain ⟨es1, es2, e⟩ := List.append_of_mem hz
  obtain ⟨_, _, h3, _⟩ := D.ents.split z es1 es2 e
  rw [e, h3, Nat.zero_add]
  simp
 have a1 := h2 hx
 have a2 := h2 hy
 rw [h, a1] at a2
 injection a2 with a2
 exact a2.symm
theorem lookC (D : z1h TT Δ no ops T0 C0 nb0 es) {S : Nat → Bool} (hS : Shut ops S) {x : Ent} (hx : x ∈ es) (hsx : x.skip = false) (hj : S x.i = false) (hr : ∀ k, PB ops x.i k → S k = true) {k : Nat} (hk : k ∈ x.ids) :
  selC S es C0 k = x.C k ∨ ∃ y ∈ es, y.skip = false ∧ z4u (logsOf es) x.log y.log = true ∧ wrote y.nb y.e k ∧ selC S es C0 k = effC y.C y.nb y.e k ∧ y.C k = x.C k := by
 by_cases hy : ∃ y ∈ es, y.skip = false ∧ z4u (logsOf es) x.log y.log = true ∧ wrote y.nb y.e k ∧ S y.i = true
 ·right
  obtain ⟨y, hym, hsy, hso, hwy, hSy⟩ := hy
  obtain ⟨a1, a2, a3, a4, a5, a6, a7⟩ := z3i hso
  have a3 : x.i < y.i := a3
  have btw : ∀ z ∈ es, z.skip = false → wrote z.nb z.e k → x.i < z.i → z.i < y.i → False := by
   intro z hz hsz hw h1 h2
   exact z1n (a7 z.log (z1B hz hsz) h1 h2) k (z3N hw) hk
  obtain ⟨es1, es2, e⟩ := List.append_of_mem hym
  obtain ⟨_, hyC, h3, _, _, h6, h7, _⟩ := D.ents.split y es1 es2 e
  have hS2 : ∀ z ∈ es2, z.skip = false → wrote z.nb z.e k → S z.i = false := by
   intro z hz hsz hw
   have hlt := (h7 z hz).1
   have hz' : z ∈ es := by rw [e]; exact List.mem_append_right _ (List.mem_cons_of_mem _ hz)
   rcases D.log2 hx hz' hsx hsz with q | q | q | q | q
   ·omega
   ·exact D.later hS (by omega) hj q
   ·exact absurd (List.mem_append_left _ hk) ((z4K q).2 k hw)
   ·exfalso
    obtain ⟨_, _, _, _, _, _, b7⟩ := z3i q
    exact z1n (b7 y.log (z1B hym hsy) a3 hlt) k (z3N hwy) hk
   ·exact absurd hw (z2k q k)
  refine ⟨y, hym, hsy, hso, hwy, ?_, ?_⟩
  ·conv => lhs; rw [e]
   rw [z2a]
   show selC S es2 _ k = _
   rw [if_pos ⟨hSy, hsy⟩, z2m es2 _ hS2]
   exact z3n (.inr hwy)
  ·rw [hyC, (D.selTb hx).2]
   conv => rhs; rw [e]
   rw [z2a]
   have hbl : ∀ z ∈ y :: es2, z.skip = false → wrote z.nb z.e k → (fun i => Nat.blt i x.i) z.i = false := by
    intro z hz _ _
    refine Bool.eq_false_iff.2 fun q => ?_
    have q := Nat.le_of_ble_eq_true q
    rcases List.mem_cons.1 hz with rfl | hz
    ·omega
    ·have := (h7 z hz).1; omega
   rw [z2m (y :: es2) _ hbl]
   refine z1z es1 _ _ rfl fun z hz hsz hw => ?_
   have hlt := (h6 z hz).1
   have hz' : z ∈ es := by rw [e]; exact List.mem_append_left _ hz
   show true = Nat.blt z.i x.i
   symm
   rcases Nat.lt_trichotomy z.i x.i with q | q | q
   ·exact Nat.ble_eq_true_of_le q
   ·exfalso
    have : z = x := D.same hx hz' q
    subst this
    exact z2k hso k hw
   ·exact (btw z hz' hsz hw q hlt).elim
 ·left
  rw [(D.selTb hx).2]
  refine z1z es _ _ rfl fun y hy' hsy hw => ?_
  rcases D.log2 hx hy' hsx hsy with h | h | h | h | h
  ·exact D.other hS hj hr (.inl h)
  ·exact D.other hS hj hr (.inr h)
  ·exact absurd (List.mem_append_left _ hk) ((z4K h).2 k hw)
  ·have hlt : x.i < y.i := (z3i h).2.2.1
   have h1 : S y.i = false := by
    cases hs : S y.i with
    | false => rfl
    | true => exact (hy ⟨y, hy', hsy, h, hw, hs⟩).elim
   show S y.i = Nat.blt y.i x.i
   rw [h1]
   symm
   exact Bool.eq_false_iff.2 fun q => by have := Nat.le_of_ble_eq_true q; omega
  ·exact absurd hw (z2k h k)
def add (S : Nat → Bool) (j : Nat) : Nat → Bool := fun i => if i = j then true else S i
theorem z4l (S : Nat → Bool) (j : Nat) : add S j j = true := by simp [add]
theorem z6o {S : Nat → Bool} {i j : Nat} (h : i ≠ j) : add S j i = S i := by simp [add, h]
theorem stepT (D : z1h TT Δ no ops T0 C0 nb0 es) {S : Nat → Bool} (hS : Shut ops S) {x : Ent} (hx : x ∈ es) (hj : S x.i = false) : selT (add S x.i) es T0 = effT (selT S es T0) x.o.dst x.dv := by
 funext t
 by_cases hd : x.o.dst = some t
 ·have hd' : effT (selT S es T0) x.o.dst x.dv t = x.dv := by simp only [effT, hd, if_true]
  rw [hd']
  obtain ⟨es1, es2, e⟩ := List.append_of_mem hx
  obtain ⟨_, _, h3, _, _, h6, h7, _⟩ := D.ents.split x es1 es2 e
  rw [e, z3J]
  show selT (add S x.i) es2 _ t = _
  rw [if_pos (z4l S x.i), z3R es2 _ fun y hy hyd => ?_]
  ·simp only [effT, hd, if_true]
  ·have hlt := (h7 y hy).1
   rw [z6o (by omega)]
   rcases D.tmp2 hx (y := y) (by rw [e]; exact List.mem_append_right _ (List.mem_cons_of_mem _ hy)) with h | h | h
   ·omega
   ·exact D.later hS hlt hj h
   ·exact absurd hyd (z7q h t hd).2
 ·have hd' : effT (selT S es T0) x.o.dst x.dv t = selT S es T0 t := by simp only [effT, hd, if_false]
  rw [hd']
  refine z2l es _ _ rfl fun y hy hyd => z6o fun e => hd ?_
  have h1 := (D.idx hx).1
  have h2 := (D.idx hy).1
  rw [e, h1] at h2
  injection h2 with h2
  rw [h2]; exact hyd
theorem stepC (D : z1h TT Δ no ops T0 C0 nb0 es) {S : Nat → Bool} (hS : Shut ops S) {x : Ent} (hx : x ∈ es) (hsx : x.skip = false) (hj : S x.i = false) : selC (add S x.i) es C0 = effC (selC S es C0) x.nb x.e := by
 funext k
 by_cases hw : wrote x.nb x.e k
 ·have hsub := fun (y : Ent) (hy : y ∈ es) (h : y.skip = false) => D.sub hy h
  obtain ⟨es1, es2, e⟩ := List.append_of_mem hx
  obtain ⟨_, _, h3, _, _, h6, h7, _⟩ := D.ents.split x es1 es2 e
  have hl : selC (add S x.i) es C0 k = effC (selC (add S x.i) es1 C0) x.nb x.e k := by
   rw [e, z2a]
   show selC (add S x.i) es2 _ k = _
   rw [if_pos ⟨z4l S x.i, hsx⟩, z2m es2 _ fun y hy hsy hyw => ?_]
   have hlt := (h7 y hy).1
   have hy' : y ∈ es := by rw [e]; exact List.mem_append_right _ (List.mem_cons_of_mem _ hy)
   rw [z6o (by omega)]
   rcases D.log2 hx hy' hsx hsy with h | h | h | h | h
   ·omega
   ·exact D.later hS hlt hj h
   rotate_left
   ·exact absurd hw (z2k h k)
   ·exact absurd hyw (z2k h k)
   ·exfalso
    refine (z4K h).1 k hw ?_
    rcases hyw with hyw | hyw
    ·exact List.mem_append_left _ (hsub y hy' hsy k hyw)
    ·exact List.mem_append_right _ (z2s.2 hyw)
  rw [hl]
  exact z3n (.inr hw)
 ·rw [z2w hw]
  refine z1z es _ _ rfl fun y hy hsy hyw => z6o fun e => hw ?_
  rw [← D.same hx hy e]; exact hyw
theorem stepCs (D : z1h TT Δ no ops T0 C0 nb0 es) {S : Nat → Bool} {x : Ent} (hx : x ∈ es) (hsx : x.skip = true) : selC (add S x.i) es C0 = selC S es C0 := by
 funext k
 refine z1z es _ _ rfl fun y hy hsy hyw => z6o fun e => ?_
 rw [D.same hx hy e, hsx] at hsy
 cases hsy
end z1h
structure Mid (X keep : Nat → Prop) (w0 : World) (n : z0L) (T0 : Nat → AV) (C0 : Nat → Blk) (nb0 : Nat) (es : List Ent) (S : Nat → Bool) (ι0 : Nat → Option Value) (ι : Nat → Option Value) (a : Act) (w : World) : Prop where
 lk : Lk ι0 ι
 f : FRel X keep w0 n ι (selT S es T0) (selC S es C0) a w
 dom : ∀ k, ι k ≠ none → k < nb0 ∨ ∃ y ∈ es, y.skip = false ∧ S y.i = true ∧ y.nb ≤ k ∧ k < y.nb + y.e.new.length
variable {ops : Array Oper} {T0 : Nat → AV} {C0 : Nat → Blk} {nb0 : Nat} {es : List Ent}
theorem dat1_int {C C' : Nat → Blk} {k : IntKind} : ∀ v : AV, dat1 C (.int k) v = dat1 C' (.int k) v := by
 intro v
 cases v <;> first | rfl | (rename_i t x; cases t <;> rfl)
theorem pack_int {C C' : Nat → Blk} {k : IntKind} (cs : List AV) : pack C (.int k) cs = pack C' (.int k) cs := by
 cases cs with
 | nil => rfl
 | cons v r => simp only [pack, dat1_int (C := C) (C' := C') v]
theorem keyOf_C {C C' : Nat → Blk} {kt : Ty} (hk : kt.key = true) : ∀ y : AV, keyOf C kt y = keyOf C' kt y := by
 refine z1J (motive := fun kt => ∀ y : AV, keyOf C kt y = keyOf C' kt y) kt hk (fun k y => ?_) (fun y => ?_) (fun y => ?_) fun i j y => ?_
 ·unfold keyOf
  simp only [Ty.kag, Bool.false_eq_true, if_false, dat1_int (C := C) (C' := C') y]
 ·unfold keyOf
  have : dat1 C .str y = dat1 C' .str y := by cases y <;> first | rfl | (rename_i t x; cases t <;> rfl)
  simp only [Ty.kag, Bool.false_eq_true, if_false, this]
 ·unfold keyOf
  have : dat1 C .bool y = dat1 C' .bool y := by cases y <;> first | rfl | (rename_i t x; cases t <;> rfl)
  simp only [Ty.kag, Bool.false_eq_true, if_false, this]
 ·unfold keyOf
  have e : ∀ cs, pack C (.pr (.int i) (.int j)) cs = pack C' (.pr (.int i) (.int j)) cs := by
   intro cs
   simp only [pack]
   rw [pack_int (C := C) (C' := C')]
   split
   ·rw [pack_int (C := C) (C' := C')]
   ·rfl
  have : dat C (.pr (.int i) (.int j)) y = dat C' (.pr (.int i) (.int j)) y := by
   unfold dat
   split
   ·rfl
   ·rfl
   ·rw [e]
  simp only [Ty.kag, if_true, this]
theorem mapTy_key {TT : Tab} {tt : Nat} {kt : Ty} {va : Bool} {vt : Ty} (h : mapTy TT tt = some (kt, va, vt)) : kt.key = true := by
 unfold mapTy at h
 repeat' split at h
 all_goals first | (cases h; done) | skip
 rename_i h1 h2
 injection h with h
 injection h with q1 q2
 subst q1
 unfold keyTy at h1
 split at h1
 ·repeat' split at h1
  all_goals first | (cases h1; done) | (injection h1 with h1; subst h1; rfl)
 ·unfold kTy at h1
  split at h1 <;> first | (injection h1 with h1; subst h1; rfl) | cases h1
def SoftB (B B' : Blk) : Prop := ∃ (kt : Ty) (va : Bool) (vt : Ty) (l : List (kt.den × vt.den)) (q : kt.den) (nb : Nat), kt.key = true ∧ B = .map kt va vt l ∧ B' = .ms kt va vt (setM kt vt l q ((lookM kt vt l q).getD vt.dflt)) q nb
theorem look_set {kt vt : Ty} (hk : kt.key = true) (q q' : kt.den) (u : vt.den) : ∀ l : List (kt.den × vt.den), lookM kt vt (setM kt vt l q u) q' = if kt.keq q' q = true then some u else lookM kt vt l q'
 | [] => by simp [setM, lookM]
 | p :: r => by
  simp only [setM]
  split
  ·rename_i h
   have h := (z0Q hk q p.1).1 h
   subst h
   simp only [lookM]
   split <;> rfl
  ·rename_i h
   simp only [lookM, look_set hk q q' u r]
   split
   ·rename_i h2
    split
    ·rename_i h3
     have h2 := (z0Q hk q' p.1).1 h2
     have h3 := (z0Q hk q' q).1 h3
     rw [h2] at h3
     exact absurd ((z0Q hk q p.1).2 h3.symm) h
    ·rfl
   ·rfl
theorem look_soft {kt vt : Ty} (hk : kt.key = true) (l : List (kt.den × vt.den)) (q q' : kt.den) : (lookM kt vt (setM kt vt l q ((lookM kt vt l q).getD vt.dflt)) q').getD vt.dflt = (lookM kt vt l q').getD vt.dflt := by
 rw [look_set hk]
 split
 ·rename_i h
  rw [(z0Q hk q' q).1 h]
  rfl
 ·rfl
theorem mapLook_soft {R : Type} {TT : Tab} {tt : Nat} {C C' : Nat → Blk} {x y : AV} {K : AV → Option R} (hC : ∀ k, C' k = C k ∨ SoftB (C k) (C' k)) : mapLook TT tt C' x y false K = mapLook TT tt C x y false K := by
 unfold mapLook
 cases hm : mapTy TT tt with
 | none => rfl
 | some p =>
  obtain ⟨kt, va, vt⟩ := p
  simp only [keyOf_C (C := C') (C' := C) (mapTy_key hm) y]
  cases keyOf C kt y with
  | none => rfl
  | some q =>
   cases x <;> try rfl
   rename_i b
   rcases hC b with e | ⟨kt', va', vt', l, q0, nb, hk, e1, e2⟩
   ·simp only [e]
   ·simp only [e1, e2]
    cases h1 : kt'.eqv kt with
    | none => rfl
    | some h =>
     cases h2 : vt'.eqv vt with
     | none => rfl
     | some k =>
      obtain ⟨h⟩ := h
      obtain ⟨k⟩ := k
      subst h; subst k
      simp only [Bool.not_false, Bool.and_true, Bool.false_eq_true, if_false]
      cases eqBB va' va with
      | false => rfl
      | true =>
       simp only [if_true]
       have e3 : ∀ m : List (kt'.den × vt'.den), Ty.z4I rfl rfl m = m := fun _ => rfl
       simp only [e3, look_soft hk]
theorem evOp_soft {o : Oper} (ho : softOf o = 1) {T : Nat → AV} {C C' : Nat → Blk} {nb : Nat} {e : Eff} (h : evOp TT Δ o T C nb (R := Eff) some = some e) (hC : ∀ k, C' k = C k ∨ SoftB (C k) (C' k)) : evOp TT Δ o T C' nb (R := Eff) some = some e := by
 unfold softOf at ho
 split at ho
 ·rename_i tt x ix hop
  unfold evOp at h ⊢
  rw [hop] at h ⊢
  simp only at h ⊢
  rw [mapLook_soft hC]
  exact h
 ·cases ho
 ·cases ho
theorem evOp_ent {o : Oper} (ho : softOf o = 2) {T : Nat → AV} {C : Nat → Blk} {nb : Nat} {e : Eff} (h : evOp TT Δ o T C nb (R := Eff) some = some e) : ∃ b B, e.upd = [(b, B)] ∧ e.new = [.dead] ∧ SoftB (C b) B := by
 unfold softOf at ho
 split at ho
 ·cases ho
 ·rename_i tt m k hop
  unfold evOp at h
  rw [hop] at h
  simp only at h
  unfold mapEnt at h
  split at h
  ·rename_i kt va vt hm
   split at h
   ·rename_i q hq
    split at h
    ·rename_i b hb
     split at h
     ·rename_i kt' va' vt' l hCb
      split at h
      ·rename_i h1 h2 _ _
       obtain ⟨h1⟩ := h1
       obtain ⟨h2⟩ := h2
       subst h1; subst h2
       split at h
       ·rename_i hva
        have hva := z1t hva
        subst hva
        injection h with h
        subst h
        exact ⟨b, _, rfl, rfl, kt', va', vt', l, q, nb, mapTy_key hm, hCb, rfl⟩
       ·cases h
      ·cases h
     ·cases h
    ·cases h
   ·cases h
  ·cases h
 ·cases ho
theorem z1h.evAt {n : Nat → Bool} {ops : Array Oper} {T0 : Nat → AV} {C0 : Nat → Blk} {nb0 : Nat} {es : List Ent} (D : z1h TT Δ n ops T0 C0 nb0 es) {S : Nat → Bool} (hS : Shut ops S) {x : Ent} (hx : x ∈ es) (hsx : x.skip = false) (hj : S x.i = false) (hr : ∀ k, PB ops x.i k → S k = true)
  {T : Nat → AV} {nb : Nat} (hev : evOp TT Δ x.o T (resC x.ids x.C) nb (R := Eff) some = some x.e) : evOp TT Δ x.o T (resC x.ids (selC S es C0)) nb (R := Eff) some = some x.e := by
 by_cases hall : ∀ k ∈ x.ids, selC S es C0 k = x.C k
 ·have hC : resC x.ids (selC S es C0) = resC x.ids x.C := by
   funext k
   unfold resC
   split
   ·rename_i hm
    exact hall k (z1r.1 hm)
   ·rfl
  rw [hC]
  exact hev
 ·have hso : softOf x.o = 1 := by
   obtain ⟨k, hk⟩ := Classical.not_forall.1 hall
   obtain ⟨hk, hne⟩ := Classical.not_imp.1 hk
   rcases D.lookC hS hx hsx hj hr hk with e | ⟨y, _, _, hso, _⟩
   ·exact absurd e hne
   ·exact (z3i hso).1
  refine evOp_soft hso hev fun k => ?_
  unfold resC
  split
  ·rename_i hm
   have hk := z1r.1 hm
   rcases D.lookC hS hx hsx hj hr hk with e | ⟨y, hy, hsy, hso, hw, e1, e2⟩
   ·exact .inl e
   ·right
    obtain ⟨_, a2, _, _, _, a6, _⟩ := z3i hso
    obtain ⟨es1, es2, e⟩ := List.append_of_mem hy
    obtain ⟨_, _, _, _, _, _, _, hyev⟩ := D.ents.split y es1 es2 e
    simp only [hsy, Bool.false_eq_true, if_false] at hyev
    obtain ⟨b, B, h1, h2, h3⟩ := evOp_ent a2 hyev.2
    have hnew : ∀ j, y.nb ≤ j ∧ j < y.nb + y.e.new.length → j ∉ x.ids := fun j hj hm => z1n a6 j (z2s.2 hj) hm
    have hkb : k = b := by
     rcases hw with hw | hw
     ·rw [h1] at hw
      simpa [z0J] using hw
     ·exact absurd hk (hnew k hw)
    subst hkb
    have hne : k ≠ y.nb := by
     rintro rfl
     exact hnew _ ⟨Nat.le_refl _, by rw [h2]; simp⟩ hk
    have hB : effC y.C y.nb y.e k = B := by
     unfold effC
     rw [h1, h2]
     show setC (setC y.C k B) y.nb .dead k = B
     rw [z0f hne, z0e]
    rw [e1, hB, ← e2]
    obtain ⟨kt, va, vt, l, q, nb', g1, g2, g3⟩ := h3
    refine ⟨kt, va, vt, l, q, nb', g1, ?_, g3⟩
    unfold resC at g2
    split at g2
    ·exact g2
    ·cases g2
  ·exact .inl rfl
theorem Mid.step {ι0 : Nat → Option Value} (hP : z0n P TT) (hΔ : z0R P Δ) (D : z1h TT Δ n.ok ops T0 C0 nb0 es) {ρ : Option Nat} {dp : Nat} {S : Nat → Bool} (hS : Shut ops S) {a : Act} (M : Mid X keep w0 n T0 C0 nb0 es S ι0 ι a w) {x : Ent} (hx : x ∈ es) (hj : S x.i = false) (hr : ∀ k, PB ops x.i k → S k = true)
  {K : Act → World → Prop} {Q : Exit → Act → World → Prop} (hK : ∀ ι' a' w', Mid X keep w0 n T0 C0 nb0 es (z1h.add S x.i) ι0 ι' a' w' → K a' w') : wpOpIn (WF ρ) dp P ops Q x.i K a w := by
 unfold wpOpIn
 rw [(D.idx hx).1]
 have hlook := fun t ht => D.lookT hS hx hj hr (t := t) ht
 have hgT : ∀ {j want g}, x.o.guard = some (j, want) → (ops[j]?).bind (·.dst) = some g → selT S es T0 g = x.T g := fun h1 h2 => hlook _ (looks_guard h1 h2)
 have hse : ∃ es1 es2, es = es1 ++ x :: es2 := List.append_of_mem hx
 obtain ⟨es1, es2, e⟩ := hse
 obtain ⟨_, _, h3, hnb, hdst, h6, h7, hev⟩ := D.ents.split x es1 es2 e
 cases hsk : x.skip
 ·simp only [hsk, Bool.false_eq_true, if_false] at hev
  obtain ⟨hg, hev⟩ := hev
  have hg' : z6G ops (selT S es T0) x.o := by
   rcases hg with hg | ⟨j, want, g, h1, h2, h3⟩
   ·exact .inl hg
   ·exact .inr ⟨j, want, g, h1, h2, by rw [hgT h1 h2]; exact h3⟩
  have hw := wanted_on M.f.tm hg'
  simp only [hw, if_true]
  refine z4q (z4f hev) ?_
  have hT : resT (z2r x.o.op.operands.toList) (selT S es T0) = resT (z2r x.o.op.operands.toList) x.T := by
   funext t
   unfold resT
   split
   ·rename_i hm
    exact hlook t (looks_op (z1r.1 hm))
   ·rfl
  rw [← hT] at hev
  have hev := D.evAt hS hx hsk hj hr hev
  refine Oper.wp_mono ?_ (evOp_local hP hΔ M.f hev (D.sub hx hsk) (fun k h1 h2 => ?_) (Q := Q))
  ·rintro a' w' ⟨v, rfl, ι', o1, o2, o3, o4⟩
   refine hK ι' _ w' ⟨fun k v e => o2.io k v (M.lk k v e), ?_, fun k hk => ?_⟩
   ·rw [D.stepT hS hx hj, D.stepC hS hx hsk hj]
    have hdv : x.dv = x.e.dst := by unfold Ent.dv; simp [hsk]
    rw [hdv]
    exact M.f.step (z4h hdst) o1 o2 o3
   ·by_cases hkn : x.nb ≤ k ∧ k < x.nb + x.e.new.length
    ·exact .inr ⟨x, hx, hsk, z1h.z4l .., hkn⟩
    ·rw [o4 k hkn] at hk
     rcases M.dom k hk with h | ⟨y, q1, q2, q3, q4⟩
     ·exact .inl h
     ·refine .inr ⟨y, q1, q2, ?_, q4⟩
      unfold z1h.add
      split
      ·rfl
      ·exact q3
  ·cases hι : ι k with
   | none => rfl
   | some v =>
    exfalso
    rcases M.dom k (by rw [hι]; simp) with h | ⟨y, q1, q2, q3, q4, q5⟩
    ·omega
    ·have hne : y.i ≠ x.i := fun e => by rw [e, hj] at q3; cases q3
     have hynb : y.nb' = y.nb + y.e.new.length := by unfold Ent.nb'; simp [q2]
     have hxnb : x.nb' = x.nb + x.e.new.length := by unfold Ent.nb'; simp [hsk]
     rw [e] at q1
     rcases List.mem_append.1 q1 with q1 | q1
     ·have := (h6 y q1).2
      omega
     ·rcases List.mem_cons.1 q1 with rfl | q1
      ·exact hne rfl
      ·have := (h7 y q1).2
       omega
 ·simp only [hsk, if_true] at hev
  have hg' : z4p ops (selT S es T0) x.o := by
   obtain ⟨j, want, g, h1, h2, h3⟩ := hev
   exact ⟨j, want, g, h1, h2, by rw [hgT h1 h2]; exact h3⟩
  have hw := wanted_off M.f.tm hg'
  simp only [hw]
  refine ⟨fun _ _ => trivial, hK ι _ w ⟨M.lk, ?_, fun k hk => ?_⟩⟩
  ·rw [D.stepT hS hx hj, D.stepCs hx hsk]
   have hdv : x.dv = .ud := by unfold Ent.dv; simp [hsk]
   rw [hdv]
   exact M.f.step (z4h hdst) M.f.h (Ext.refl _ _ _ _) (by simp only [RelV])
  ·rcases M.dom k hk with h | ⟨y, q1, q2, q3, q4⟩
   ·exact .inl h
   ·refine .inr ⟨y, q1, q2, ?_, q4⟩
    unfold z1h.add
    split
    ·rfl
    ·exact q3
theorem z1h.ent (D : z1h TT Δ n.ok ops T0 C0 nb0 es) {j : Nat} (h : j < ops.size) : ∃ x ∈ es, x.i = j := by
 have hl : j < es.length := by rw [D.len]; exact h
 refine ⟨es[j], List.getElem_mem hl, ?_⟩
 have e : es = es.take j ++ es[j] :: es.drop (j + 1) := by simp
 obtain ⟨_, _, h3, _⟩ := D.ents.split es[j] _ _ e
 rw [h3, List.length_take, Nat.min_eq_left (Nat.le_of_lt hl), Nat.zero_add]
theorem all_listed (hE : edgesOk 0 ops.toList = true) {listed : Array Bool} (hs : listed.size = ops.size) (hr : Region.ready .any ops listed = []) : ∀ j, j < ops.size → listed.getD j false = true := by
 intro j
 induction j using Nat.strongRecOn with
 | ind j ih =>
  intro hj
  cases hl : listed.getD j false with
  | true => rfl
  | false =>
   exfalso
   have : j ∈ Region.ready .any ops listed := by
    rw [mem_ready]
    refine ⟨?_, ops[j], Array.getElem?_eq_getElem hj, fun e he hb => ?_⟩
    ·rw [Array.getD_eq_getD_getElem?] at hl ⊢
     rw [Array.getElem?_eq_getElem (by omega)] at hl ⊢
     exact hl
    ·have hlt := z2x ops.toList 0 j ops[j] hE (by rw [Array.getElem?_toList]; exact Array.getElem?_eq_getElem hj) e (by simpa using he) hb
     exact ih e.on (by omega) (by omega)
   rw [hr] at this
   cases this
theorem walk_any {ι0 : Nat → Option Value} (hP : z0n P TT) (hΔ : z0R P Δ) (D : z1h TT Δ n.ok ops T0 C0 nb0 es) {ρ : Option Nat} {dp : Nat} {Q : Exit → Act → World → Prop} (hQ : ∀ ι' a' w', Mid X keep w0 n T0 C0 nb0 es (fun _ => true) ι0 ι' a' w' → Q .normal a' w') :
  ∀ (fuel : Nat) (U : List Nat) (listed : Array Bool) (a : Act) (w : World) (ι : Nat → Option Value), U.length ≤ fuel → (∀ j, j < ops.size → listed.getD j false = false → j ∈ U) → listed.size = ops.size → Shut ops (fun i => listed.getD i false) → Mid X keep w0 n T0 C0 nb0 es (fun i => listed.getD i false) ι0 ι a w →
   wpAnyIn (WF ρ) dp P .any ops Q fuel listed a w := by
 have hdone : ∀ (listed : Array Bool) (a : Act) (w : World) (ι : Nat → Option Value), listed.size = ops.size → Mid X keep w0 n T0 C0 nb0 es (fun i => listed.getD i false) ι0 ι a w → Region.ready .any ops listed = [] → Q .normal a w := by
  intro listed a w ι hs M hr
  have hall := all_listed D.hE hs hr
  have hy : ∀ y ∈ es, (fun i => listed.getD i false) y.i = (fun _ => true) y.i := fun y hy => hall y.i (D.idx hy).2
  refine hQ ι a w ⟨M.lk, ?_, fun k hk => ?_⟩
  ·have e1 : selT (fun _ => true) es T0 = selT (fun i => listed.getD i false) es T0 := funext fun t => (z2l es _ _ rfl fun y h _ => hy y h).symm
   have e2 : selC (fun _ => true) es C0 = selC (fun i => listed.getD i false) es C0 := funext fun t => (z1z es _ _ rfl fun y h _ _ => hy y h).symm
   rw [e1, e2]
   exact M.f
  ·rcases M.dom k hk with h | ⟨y, q1, q2, q3, q4⟩
   ·exact .inl h
   ·exact .inr ⟨y, q1, q2, rfl, q4⟩
 intro fuel
 induction fuel with
 | zero =>
  intro U listed a w ι hU hm hs _ M
  have hU : U = [] := List.length_eq_zero_iff.1 (by omega)
  subst hU
  have hr : Region.ready .any ops listed = [] := by
   cases hr : Region.ready .any ops listed with
   | nil => rfl
   | cons j r =>
    exfalso
    have hj : j ∈ Region.ready .any ops listed := by rw [hr]; exact List.mem_cons_self ..
    obtain ⟨h1, o, h2, _⟩ := mem_ready.1 hj
    have hlt := (Array.getElem?_eq_some_iff.1 h2).1
    refine absurd (hm j hlt ?_) (by simp)
    rw [Array.getD_eq_getD_getElem?] at h1 ⊢
    rw [Array.getElem?_eq_getElem (by omega)] at h1 ⊢
    exact h1
  exact ⟨hr, hdone listed a w ι hs M hr⟩
 | succ fuel ih =>
  intro U listed a w ι hU hm hs hS M
  refine ⟨hdone listed a w ι hs M, fun j hj => ?_⟩
  obtain ⟨h1, o, h2, h3⟩ := mem_ready.1 hj
  have hlt := (Array.getElem?_eq_some_iff.1 h2).1
  have hf : listed.getD j false = false := by
   rw [Array.getD_eq_getD_getElem?] at h1 ⊢
   rw [Array.getElem?_eq_getElem (by omega)] at h1 ⊢
   exact h1
  obtain ⟨x, hx, rfl⟩ := D.ent hlt
  have hpb : ∀ k, PB ops x.i k → listed.getD k false = true := by
   intro k hk
   obtain ⟨e, q1, q2, q3⟩ := (PB_iff D.hE h2 k).1 hk
   have hl := h3 e (by simpa using q1) q2
   rcases q3 with rfl | q3
   ·exact hl
   ·exact hS _ _ hl q3
  have hadd : (fun i => (listed.setIfInBounds x.i true).getD i false) = z1h.add (fun i => listed.getD i false) x.i := by
   funext i
   unfold z1h.add
   split
   ·rename_i h
    subst h
    simp [hs, hlt]
   ·rename_i h
    exact getD_set_ne false (Ne.symm h)
  refine Mid.step hP hΔ D hS M hx hf hpb fun ι' a' w' M' => ih (U.erase x.i) _ a' w' ι' ?_ (fun k hk hkf => ?_) (by simp [hs]) ?_ (by rw [hadd]; exact M')
  ·have hmem := hm x.i hlt hf
   rw [List.length_erase_of_mem hmem]
   omega
  ·have hne : k ≠ x.i := by
    intro e
    subst e
    rw [congrFun hadd, z1h.z4l] at hkf
    cases hkf
   rw [getD_set_ne false (Ne.symm hne)] at hkf
   exact (List.mem_erase_of_ne hne).2 (hm k hk hkf)
  ·rw [hadd]
   intro d k hd hk
   by_cases hkx : k = x.i
   ·subst hkx; exact z1h.z4l ..
   ·rw [z1h.z6o hkx]
    by_cases hdx : d = x.i
    ·subst hdx; exact hpb k hk
    ·rw [z1h.z6o hdx] at hd
     exact hS d k hd hk
theorem evOps_drawI (hm : P.follows .mixedOrders = true) (hP : z0n P TT) (hΔ : z0R P Δ) {ρ : Option Nat} {dp : Nat} {R : Type} {Q : Exit → Act → World → Prop} {r : R} {K : St → Option R} {id : Nat} {s : St} {a : Act}
  (hev : evOps TT Δ n.ok ops true (zipN 0 ops.toList) s [] (fun s' lg => if drawOk ops lg = true then K s' else none) = some r) (h : SRel X keep w0 n ι s a w)
  (hQ : ∀ s' a' w' ι', K s' = some r → SRel X keep w0 n ι' s' a' w' → Lk ι ι' → Q .normal a' w') : (Code.region id ops true).wpIn (WF ρ) dp P Q a w := by
 obtain ⟨es, s', ht, hk⟩ := trace hΔ _ _ _ hev
 rw [List.append_nil] at hk
 split at hk
 ·rename_i hd
  obtain ⟨k1, k2, k3, k4, k5, k6⟩ := Tr.ents ops.toList 0 _ _ _ es _ _ _ ht
  simp only [drawOk, Bool.and_eq_true] at hd
  have D : z1h TT Δ n.ok ops (getT s.tm) (getB s.bl) s.bl.length es := ⟨k1, k2, hd.1.1, hd.1.2, hd.2⟩
  refine wpIn_region_any hm (walk_any (X := X) (keep := keep) (w0 := w0) (ι0 := ι) hP hΔ D (fun ι' a' w' M => hQ s' a' w' ι' hk ⟨?_, fun k hk => ?_⟩ M.lk) ops.size (List.range ops.size) _ a _ ι (by simp) (fun j hj _ => by simpa using hj) (by simp) ?_ ?_)
  ·rw [k3, k4]; exact M.f
  ·cases hι : ι' k with
   | none => rfl
   | some v =>
    exfalso
    rcases M.dom k (by rw [hι]; simp) with h | ⟨y, q1, q2, q3, q4, q5⟩
    ·omega
    ·have := (k6 y q1).2.2
     have hynb : y.nb' = y.nb + y.e.new.length := by unfold Ent.nb'; simp [q2]
     omega
  ·intro d j hd _
   exfalso
   revert hd
   simp only [Array.getD_eq_getD_getElem?, Array.getElem?_replicate]
   split <;> simp
  ·have hz : (fun i => (Array.replicate ops.size false).getD i false) = fun _ => false := by
    funext i
    simp only [Array.getD_eq_getD_getElem?, Array.getElem?_replicate]
    split <;> rfl
   rw [hz]
   refine ⟨fun _ _ e => e, ?_, fun k hk => ?_⟩
   ·have e1 : selT (fun _ => false) es (getT s.tm) = getT s.tm := funext fun t => z3R es _ fun _ _ _ => rfl
    have e2 : selC (fun _ => false) es (getB s.bl) = getB s.bl := funext fun t => z2m es _ fun _ _ _ _ => rfl
    rw [e1, e2]
    exact h.f.drawn _
   ·left
    rcases Nat.lt_or_ge k s.bl.length with q | q
    ·exact q
    ·exact absurd (h.dom k q) hk
 ·cases hk
theorem evOps_draw (hm : P.follows .mixedOrders = true) (hP : z0n P TT) (hΔ : z0R P Δ) {ρ : Option Nat} {dp : Nat} {R : Type} {Q : Exit → Act → World → Prop} {r : R} {K : St → Option R} {id : Nat} {s : St} {a : Act}
  (hev : evOps TT Δ n.ok ops true (zipN 0 ops.toList) s [] (fun s' lg => if drawOk ops lg = true then K s' else none) = some r) (h : SRel X keep w0 n ι s a w)
  (hQ : ∀ s' a' w' ι', K s' = some r → SRel X keep w0 n ι' s' a' w' → Q .normal a' w') : (Code.region id ops true).wpIn (WF ρ) dp P Q a w :=
 evOps_drawI hm hP hΔ hev h fun s' a' w' ι' h1 h2 _ => hQ s' a' w' ι' h1 h2
end
end Go.Proofs.Rf
namespace Go.Proofs.Rf
open Go Go.RowKit
def posN (k : Nat) : List Nat → Option Nat
 | [] => none
 | j :: r => if Nat.beq j k = true then some 0 else match posN k r with
  | some i => some (i + 1)
  | none => none
mutual
def AV.ren (C : Nat → Blk) (f : Nat → Option Nat) : AV → AV
 | .d t x => .d t x
 | .un => .un
 | .ud => .ud
 | .nl => .nl
 | .ub => .ub
 | .np => .np
 | .rf b => match C b with
  | .row t _ xs false => .d (.sl t) xs
  | _ => match f b with
   | some j => .rf j
   | none => .un
 | .rs b sz off len => match f b with
  | some j => .rs j sz off len
  | none => .un
 | .pt b o => match f b with
  | some j => .pt j o
  | none => .un
 | .pe b sz i o => match f b with
  | some j => .pe j sz i o
  | none => .un
 | .ve cs => .ve (AV.renL C f cs)
 | .ag cs => .ag (AV.renL C f cs)
 | .tp cs => .tp (AV.renL C f cs)
 | .fn g cs => .fn g (AV.renL C f cs)
 | .fm g cs => .fm g (AV.renL C f cs)
 | .mp b => match f b with
  | some j => .mp j
  | none => .un
 | .mnil => .mnil
 | .pa b => match f b with
  | some j => .pa j
  | none => .un
 | .ro b => match f b with
  | some j => .ro j
  | none => .un
 | .oe b sz i o => match f b with
  | some j => .oe j sz i o
  | none => .un
 | .fs b k sz off len => match f b with
  | some j => .fs j k sz off len
  | none => .un
 | .fe b k sz i o => match f b with
  | some j => .fe j k sz i o
  | none => .un
 | .sp b => match f b with
  | some j => .sp j
  | none => .un
def AV.renL (C : Nat → Blk) (f : Nat → Option Nat) : List AV → List AV
 | [] => []
 | a :: r => a.ren C f :: AV.renL C f r
end
def Blk.ren (C : Nat → Blk) (f : Nat → Option Nat) : Blk → Blk
 | .box e cs => .box e (AV.renL C f cs)
 | .bz cs => .bz (AV.renL C f cs)
 | .ms kt va vt l _ _ => .map kt va vt l
 | b => b
def Blk.ids : Blk → List Nat
 | .box _ cs => AV.idsL cs
 | .bz cs => AV.idsL cs
 | _ => []
def Blk.frozen : Blk → Bool
 | .row _ _ _ false => true
 | _ => false
def reachN (C : Nat → Blk) : Nat → List Nat → List Nat → List Nat
 | 0, _, done => done
 | _ + 1, [], done => done
 | k + 1, i :: todo, done => if memN i done = true then reachN C k todo done else reachN C k ((C i).ids ++ todo) (done ++ [i])
def unfrozen (C : Nat → Blk) (T : Nat → AV) : List Nat → List Nat
 | [] => []
 | t :: r => (match T t with
  | .rf b => if (C b).frozen = true then [] else [b]
  | v => v.ids) ++ unfrozen C T r
def cutIds (live : List Nat) (s : St) : List Nat := reachN (getB s.bl) 64 (unfrozen (getB s.bl) (getT s.tm) live) []
def cutT (C : Nat → Blk) (f : Nat → Option Nat) (T : Nat → AV) : List Nat → List (Nat × AV)
 | [] => []
 | t :: r => (t, (T t).ren C f) :: cutT C f T r
def cutB (C : Nat → Blk) (f : Nat → Option Nat) : List Nat → List Blk
 | [] => []
 | i :: r => (C i).ren C f :: cutB C f r
def cut (live : List Nat) (s : St) : St :=
 ⟨cutT (getB s.bl) (fun k => posN k (cutIds live s)) (getT s.tm) live, cutB (getB s.bl) (fun k => posN k (cutIds live s)) (cutIds live s)⟩
theorem posN_get {k : Nat} : ∀ {l : List Nat} {i : Nat}, posN k l = some i → l[i]? = some k
 | [], _, h => by cases h
 | j :: r, i, h => by
  unfold posN at h
  split at h
  ·rename_i hj
   injection h with h
   subst h
   rw [Nat.eq_of_beq_eq_true hj]
   rfl
  ·cases hp : posN k r with
   | none => rw [hp] at h; cases h
   | some m =>
    rw [hp] at h
    injection h with h
    subst h
    simpa using posN_get hp
theorem z2V (C : Nat → Blk) : ∀ (n : Nat) (todo done : List Nat), done.Nodup → (reachN C n todo done).Nodup
 | 0, _, _, h => h
 | _ + 1, [], _, h => h
 | n + 1, i :: todo, done, h => by
  unfold reachN
  split
  ·exact z2V C n _ _ h
  ·rename_i hm
   refine z2V C n _ _ ?_
   rw [List.nodup_append]
   refine ⟨h, by simp, fun a ha b hb => ?_⟩
   rw [List.mem_singleton] at hb
   subst hb
   intro e
   subst e
   exact hm (z1r.2 ha)
theorem cutB_get (C : Nat → Blk) (f : Nat → Option Nat) : ∀ (l : List Nat) (j : Nat), getB (cutB C f l) j = match l[j]? with
  | some i => (C i).ren C f
  | none => .dead
 | [], j => by simp [cutB, getB]
 | i :: r, 0 => rfl
 | i :: r, j + 1 => by
  show getB (cutB C f r) j = _
  rw [cutB_get C f r j]
  simp
theorem z6h (C : Nat → Blk) (f : Nat → Option Nat) : ∀ (l : List Nat), (cutB C f l).length = l.length
 | [] => rfl
 | _ :: r => by simp [cutB, z6h C f r]
section
variable {X keep : Nat → Prop} {w0 w : World} {ι ι' : Nat → Option Value} {C : Nat → Blk} {ok ok' : Nat → Prop} {f : Nat → Option Nat}
mutual
theorem AV.z5A (hok : ∀ g, ok g → ok' g) (hB : ∀ k, RelB w ok ι k (C k)) (hf : ∀ k j, f k = some j → ι' j = ι k) : ∀ (v : AV) (u : Value), RelV w ok ι v u → RelV w ok' ι' (v.ren C f) u
 | .d t x, u, h => by
  simp only [RelV, AV.ren] at h ⊢
  exact z0s (fun _ _ _ _ e => e) hok t x _ h
 | .un, _, _ => by simp only [RelV, AV.ren]
 | .ud, _, h => by simpa only [RelV, AV.ren] using h
 | .nl, _, h => by simpa only [RelV, AV.ren] using h
 | .ub, _, h => by simpa only [RelV, AV.ren] using h
 | .np, _, h => by simpa only [RelV, AV.ren] using h
 | .rf b, u, h => by
  simp only [RelV] at h
  have hb := hB b
  simp only [AV.ren]
  split
  ·rename_i t e xs hC
   rw [hC] at hb
   obtain ⟨v, h1, _, h3⟩ := hb
   rw [h.1] at h1
   injection h1 with h1
   subst h1
   simp only [RelV]
   exact z0s (fun _ _ _ _ e => e) hok _ _ _ h3
  ·split
   ·rename_i j hj
    simp only [RelV]
    rw [hf b j hj]
    exact h
   ·simp only [RelV]
 | .rs b sz off len, u, h => by
  simp only [RelV] at h
  simp only [AV.ren]
  split
  ·rename_i j hj
   simp only [RelV]
   rw [hf b j hj]
   exact h
  ·simp only [RelV]
 | .pt b o, u, h => by
  simp only [RelV] at h
  simp only [AV.ren]
  split
  ·rename_i j hj
   simp only [RelV]
   rw [hf b j hj]
   exact h
  ·simp only [RelV]
 | .pe b sz i o, u, h => by
  simp only [RelV] at h
  simp only [AV.ren]
  split
  ·rename_i j hj
   simp only [RelV]
   rw [hf b j hj]
   exact h
  ·simp only [RelV]
 | .ve cs, u, h => by
  simp only [RelV, AV.ren] at h ⊢
  obtain ⟨g, o, us, h1, h2, h3, h4⟩ := h
  exact ⟨g, o, us, h1, hok _ h2, AV.z2G hok hB hf cs us h3, h4⟩
 | .ag cs, u, h => by
  simp only [RelV, AV.ren] at h ⊢
  obtain ⟨us, h1, h2⟩ := h
  exact ⟨us, h1, AV.z2G hok hB hf cs us h2⟩
 | .tp cs, u, h => by
  simp only [RelV, AV.ren] at h ⊢
  obtain ⟨us, h1, h2⟩ := h
  exact ⟨us, h1, AV.z2G hok hB hf cs us h2⟩
 | .fn g cs, u, h => by
  simp only [RelV, AV.ren] at h ⊢
  obtain ⟨us, h1, h2⟩ := h
  exact ⟨us, h1, AV.z2G hok hB hf cs us h2⟩
 | .fm g cs, u, h => by
  simp only [RelV, AV.ren] at h ⊢
  obtain ⟨us, h1, h2⟩ := h
  exact ⟨us, h1, AV.z2G hok hB hf cs us h2⟩
 | .mp b, u, h => by
  simp only [RelV] at h
  simp only [AV.ren]
  split
  ·rename_i j hj
   simp only [RelV]
   rw [hf b j hj]
   exact h
  ·simp only [RelV]
 | .mnil, _, h => by simpa only [RelV, AV.ren] using h
 | .pa b, _, h => by
  simp only [RelV] at h
  simp only [AV.ren]
  split
  ·rename_i j hj
   simp only [RelV]
   rw [hf b j hj]
   exact h
  ·simp only [RelV]
 | .ro b, _, h => by
  simp only [RelV] at h
  simp only [AV.ren]
  split
  ·rename_i j hj
   simp only [RelV]
   rw [hf b j hj]
   exact h
  ·simp only [RelV]
 | .oe b sz i o, _, h => by
  simp only [RelV] at h
  simp only [AV.ren]
  split
  ·rename_i j hj
   simp only [RelV]
   rw [hf b j hj]
   exact h
  ·simp only [RelV]
 | .fs b k sz off len, _, h => by
  simp only [RelV] at h
  simp only [AV.ren]
  split
  ·rename_i j hj
   simp only [RelV]
   rw [hf b j hj]
   exact h
  ·simp only [RelV]
 | .sp b, _, h => by
  simp only [RelV] at h
  simp only [AV.ren]
  split
  ·rename_i j hj
   simp only [RelV]
   rw [hf b j hj]
   exact h
  ·simp only [RelV]
 | .fe b k sz i o, _, h => by
  simp only [RelV] at h
  simp only [AV.ren]
  split
  ·rename_i j hj
   simp only [RelV]
   rw [hf b j hj]
   exact h
  ·simp only [RelV]
theorem AV.z2G (hok : ∀ g, ok g → ok' g) (hB : ∀ k, RelB w ok ι k (C k)) (hf : ∀ k j, f k = some j → ι' j = ι k) : ∀ (cs : List AV) (us : List Value), RelL w ok ι cs us → RelL w ok' ι' (AV.renL C f cs) us
 | [], us, h => by simpa only [RelL, AV.renL] using h
 | a :: r, us, h => by
  simp only [RelL, AV.renL] at h ⊢
  obtain ⟨v, vr, h1, h2, h3⟩ := h
  exact ⟨v, vr, h1, AV.z5A hok hB hf a v h2, AV.z2G hok hB hf r vr h3⟩
end
theorem Blk.z5A (hok : ∀ g, ok g → ok' g) (hB : ∀ k, RelB w ok ι k (C k)) (hf : ∀ k j, f k = some j → ι' j = ι k) {i j : Nat} (hi : ι' j = ι i) : RelB w ok' ι' j ((C i).ren C f) := by
 have hb := hB i
 cases hC : C i with
 | row t e xs rw =>
  rw [hC] at hb
  cases rw with
  | true =>
   obtain ⟨v, cs, h1, h2, h3⟩ := hb
   exact ⟨v, cs, by rw [hi]; exact h1, h2, z0u (z0s (fun _ _ _ _ e => e) hok t) h3⟩
  | false =>
   obtain ⟨v, h1, h0, h2⟩ := hb
   exact ⟨v, by rw [hi]; exact h1, h0, z0s (fun _ _ _ _ e => e) hok _ _ _ h2⟩
 | box e cs =>
  rw [hC] at hb
  obtain ⟨g, us, h1, h2, h3⟩ := hb
  exact ⟨g, us, by rw [hi]; exact h1, h2, AV.z2G hok hB hf cs us h3⟩
 | it s pos =>
  rw [hC] at hb
  obtain ⟨g, h1, h2⟩ := hb
  exact ⟨g, by rw [hi]; exact h1, h2⟩
 | map kt va vt l =>
  rw [hC] at hb
  obtain ⟨g, es, ck, l', h1, h2, h3, h4, h5, h6, h7⟩ := hb
  exact ⟨g, es, ck, l', by rw [hi]; exact h1, h2, h3, h4, h5, z2f (fun _ _ _ _ e => e) hok h6, h7⟩
 | ms kt va vt l q nb =>
  rw [hC] at hb
  obtain ⟨g, es, ck, l', jj, x, e, h1, h2, h3, h4, h5, h6, h7, _⟩ := hb
  exact ⟨g, es, ck, l', by rw [hi]; exact h1, h2, h3, h4, h5, z2f (fun _ _ _ _ e => e) hok h6, h7⟩
 | mi kt va vt l cur =>
  rw [hC] at hb
  obtain ⟨g, m, es, ck, since, c0, seen, l', h1, h2, h3, h4, h5, h6, h7, h8, h9, h10⟩ := hb
  exact ⟨g, m, es, ck, since, c0, seen, l', by rw [hi]; exact h1, h2, hok m h3, h4, h5, h6, h7, h8, z2f (fun _ _ _ _ e => e) hok h9, fun p hp => by
   obtain ⟨e, q1, q2, q3, q4, q5⟩ := h10 p hp
   exact ⟨e, q1, q2, q3, z4J (fun _ _ _ _ e => e) hok q4, z4J (fun _ _ _ _ e => e) hok q5⟩⟩
 | nr t it e ie xs =>
  rw [hC] at hb
  obtain ⟨arr, u, vs, cs, h1, h2, h3, h4, h5⟩ := hb
  exact ⟨arr, u, vs, cs, by rw [hi]; exact h1, h2, h3, z2j (fun _ _ _ _ e => e) hok h4 (fun _ _ _ _ => rfl), h5⟩
 | nz t it xs =>
  rw [hC] at hb
  obtain ⟨arr, u, vs, h1, h2, h3, h4, h5⟩ := hb
  exact ⟨arr, u, vs, by rw [hi]; exact h1, h2, z5i (fun l us q => z0s (fun _ _ _ _ e => e) hok _ l us q) h3, h4, z0s (fun _ _ _ _ e => e) hok _ _ _ h5⟩
 | bz cs =>
  rw [hC] at hb
  obtain ⟨v, h1, h2⟩ := hb
  exact ⟨v, by rw [hi]; exact h1, by have := AV.z5A hok hB hf (.ve cs) v h2; simpa only [AV.ren] using this⟩
 | dead => trivial
theorem bk_ren {i j : Nat} {C' : Nat → Blk} (hC : C' j = (C i).ren C f) (hi : ι' j = ι i) : bk ι' C' j = bk ι C i := by
 unfold bk
 rw [hC, hi]
 cases C i with
 | box e cs =>
  show (match Blk.box e (AV.renL C f cs), ι i with
   | .row _ _ _ true, some v => v.ownBlock.toList
   | .box _ _, some (.pointer (some a)) => [a.block]
   | .it _ _, some (.pointer (some a)) => [a.block]
   | .mi _ _ _ _ _, some (.pointer (some a)) => [a.block]
   | .map _ _ _ _, some (.map (some r)) => [r]
   | .ms _ _ _ _ _ _, some (.map (some r)) => [r]
   | .nr _ _ _ _ _, some (.tuple arr) => arr.toList.filterMap Value.ownBlock
   | _, _ => []) = _
  cases ι i with
  | none => rfl
  | some v =>
   cases v <;> try rfl
   rename_i p
   cases p <;> rfl
 | row t e xs rw => rfl
 | it s pos => rfl
 | mi kt va vt l cur => rfl
 | ms kt va vt l q nb =>
  cases ι i with
  | none => rfl
  | some v =>
   cases v <;> try rfl
   rename_i p
   cases p <;> rfl
 | map kt va vt l => rfl
 | nr t it e ie xs => rfl
 | nz t it xs => rfl
 | bz cs => cases ι i <;> rfl
 | dead => rfl
theorem cutT_get (live : List Nat) (C : Nat → Blk) (f : Nat → Option Nat) (T : Nat → AV) (t : Nat) : getT (cutT C f T live) t = .un ∨ getT (cutT C f T live) t = (T t).ren C f := by
 induction live with
 | nil => exact .inl rfl
 | cons u r ih =>
  show (if Nat.beq u t = true then _ else _) = _ ∨ (if Nat.beq u t = true then _ else _) = _
  split
  ·rename_i h
   rw [Nat.eq_of_beq_eq_true h]
   exact .inr rfl
  ·exact ih
theorem SRel.cut {n : z0L} {s : St} {a : Act} (h : SRel X keep w0 n ι s a w) (live : List Nat) : ∃ ι', SRel X keep w0 n ι' (cut live s) a w := by
 let ids := cutIds live s
 let f : Nat → Option Nat := fun k => posN k ids
 have hnd : ids.Nodup := z2V _ _ _ _ List.nodup_nil
 let ι' : Nat → Option Value := fun j => (ids[j]?).bind ι
 let C' := getB (Rf.cut live s).bl
 have hC' : ∀ j, C' j = match ids[j]? with
   | some i => (getB s.bl i).ren (getB s.bl) f
   | none => .dead := fun j => cutB_get _ f ids j
 have hι' : ∀ j i, ids[j]? = some i → ι' j = ι i := fun j i e => by show (ids[j]?).bind ι = _; rw [e]; rfl
 have hf : ∀ k j, f k = some j → ι' j = ι k := fun k j e => hι' j k (posN_get e)
 have hbk : ∀ j b, b ∈ bk ι' C' j → ∃ i, ids[j]? = some i ∧ b ∈ bk ι (getB s.bl) i := by
  intro j b hb
  cases hi : ids[j]? with
  | none =>
   have h1 : C' j = .dead := by rw [hC' j, hi]
   rw [z0O h1] at hb
   cases hb
  | some i =>
   refine ⟨i, rfl, ?_⟩
   rw [bk_ren (C := getB s.bl) (f := f) (i := i) (by rw [hC' j, hi]) (hι' j i hi)] at hb
   exact hb
 have hown : ∀ b, owned ι' C' b → owned ι (getB s.bl) b := by
  rintro b ⟨j, hj⟩
  obtain ⟨i, _, hi⟩ := hbk j b hj
  exact ⟨i, hi⟩
 have hok : ∀ b, okb X w ι (getB s.bl) b → okb X w ι' C' b := fun b hb => ⟨hb.1, fun ho => hb.2.1 (hown b ho), hb.2.2⟩
 refine ⟨ι', ⟨⟨fun j => ?_, fun j j' b h1 h2 => ?_, h.f.h.fr, fun b hb => h.f.h.own b (hown b hb), h.f.h.kl, fun b hb => h.f.h.ox b (hown b hb), h.f.h.xl, h.f.h.gl.mono fun g hg => ⟨hok g hg, rfl⟩⟩, fun t => ?_, h.f.size, h.f.defers⟩, fun j hj => ?_⟩
 ·show RelB w (okb X w ι' C') ι' j (C' j)
  rw [hC' j]
  cases hi : ids[j]? with
  | none => trivial
  | some i => exact Blk.z5A hok h.f.h.bl hf (hι' j i hi)
 ·obtain ⟨i, hi, hb⟩ := hbk j b h1
  obtain ⟨i', hi', hb'⟩ := hbk j' b h2
  have e := h.f.h.inj i i' b hb hb'
  subst e
  have hlt := (List.getElem?_eq_some_iff.1 hi).1
  exact (List.getElem?_inj hlt hnd).1 (hi.trans hi'.symm)
 ·rcases cutT_get live (getB s.bl) f (getT s.tm) t with e | e
  ·show RelV w (okb X w ι' C') ι' (getT (cutT (getB s.bl) f (getT s.tm) live) t) _
   rw [e]
   simp only [RelV]
  ·show RelV w (okb X w ι' C') ι' (getT (cutT (getB s.bl) f (getT s.tm) live) t) _
   rw [e]
   exact AV.z5A hok h.f.h.bl hf _ _ (h.f.tm t)
 ·have hl : (Rf.cut live s).bl.length = ids.length := z6h _ _ _
  show (ids[j]?).bind ι = none
  rw [List.getElem?_eq_none (by omega)]
  rfl
theorem HRel.quiet (h : HRel X keep w0 ι C w) {w' : World} (r : Nat) (hos : w'.os = w.os) (htape : w'.tape = w.tape) (hout : w'.output = w.output) (hsz : w.heap.size ≤ w'.heap.size)
  (hh : ∀ b, b ≠ r → b < w.heap.size → w'.heap[b]? = w.heap[b]?) (hc : ∀ o v, w.cell? ⟨r, o, none⟩ = some v → False) (hm : ∀ es ck, w.heap[r]? = some (.map es ck) → False) (hb : ∀ b, owned ι C b → b ≠ r) (hk : ¬ keep r) :
  HRel X keep w0 ι C w' ∧ ∀ v u, RelV w (okb X w ι C) ι v u → RelV w' (okb X w' ι C) ι v u := by
 have hok : ∀ g, okb X w ι C g → okb X w' ι C g := fun g hg => ⟨Nat.lt_of_lt_of_le hg.1 hsz, hg.2⟩
 have hcell : ∀ g o v, okb X w ι C g → w.cell? ⟨g, o, none⟩ = some v → w'.cell? ⟨g, o, none⟩ = some v := by
  intro g o v hg hv
  by_cases e : g = r
  ·subst e; exact (hc o v hv).elim
  ·rw [← hv]; exact World.cell?_of_block (hh g e hg.1)
 have hown : ∀ b, owned ι C b → w'.heap[b]? = w.heap[b]? := fun b ho => hh b (hb b ho) (h.lt ho)
 refine ⟨⟨fun k => ?_, h.inj, ⟨hos.trans h.fr.os, htape.trans h.fr.tape, hout.trans h.fr.output, Nat.le_trans h.fr.size hsz, fun b hb' hl => ?_⟩, h.own, h.kl, h.ox, h.xl, ⟨fun g us hg => ?_, fun g hg => ?_⟩⟩, fun v u hv => z4m hcell hok (fun _ _ e => e) v u hv⟩
 ·have hB := h.bl k
  cases hC : C k with
  | row t e xs rw =>
   rw [hC] at hB
   cases rw with
   | true =>
    obtain ⟨v, cs, h1, h2, h3⟩ := hB
    refine ⟨v, cs, h1, ⟨h2.1, ?_⟩, z0u (z0s hcell hok t) h3⟩
    rcases h2.2 with h4 | ⟨g, cap, cur, hv, h5, h6, h7⟩
    ·exact .inl h4
    ·refine .inr ⟨g, cap, cur, hv, h5, ?_, h7⟩
     rw [hown g ⟨k, by unfold bk; rw [hC, h1, hv]; exact List.mem_singleton_self _⟩]
     exact h6
   | false =>
    obtain ⟨v, h1, h0, h2⟩ := hB
    exact ⟨v, h1, h0, z0s hcell hok _ _ _ h2⟩
  | box e cs =>
   rw [hC] at hB
   obtain ⟨g, us, h1, h2, h3⟩ := hB
   refine ⟨g, us, h1, ?_, z1L hcell hok (fun _ _ e => e) cs us h3⟩
   rw [hown g ⟨k, by unfold bk; rw [hC, h1]; exact List.mem_singleton_self _⟩]
   exact h2
  | it s pos =>
   rw [hC] at hB
   obtain ⟨g, h1, h2⟩ := hB
   refine ⟨g, h1, ?_⟩
   rw [hown g ⟨k, by unfold bk; rw [hC, h1]; exact List.mem_singleton_self _⟩]
   exact h2
  | map kt va vt l =>
   rw [hC] at hB
   obtain ⟨g, es, ck, l', h1, h2, h3, h4, h5, h6, h7⟩ := hB
   refine ⟨g, es, ck, l', h1, ?_, h3, h4, h5, z2f hcell hok h6, h7⟩
   rw [hown g ⟨k, by unfold bk; rw [hC, h1]; exact List.mem_singleton_self _⟩]
   exact h2
  | ms kt va vt l q nb =>
   rw [hC] at hB
   obtain ⟨g, es, ck, l', j, x, e, h1, h2, h3, h4, h5, h6, h7⟩ := hB
   refine ⟨g, es, ck, l', j, x, e, h1, ?_, h3, h4, h5, z2f hcell hok h6, h7⟩
   rw [hown g ⟨k, by unfold bk; rw [hC, h1]; exact List.mem_singleton_self _⟩]
   exact h2
  | mi kt va vt l cur =>
   rw [hC] at hB
   obtain ⟨g, m, es, ck, since, c0, seen, l', h1, h2, h3, h4, h5, h6, h7, h8, h9, h10⟩ := hB
   refine ⟨g, m, es, ck, since, c0, seen, l', h1, ?_, hok m h3, ?_, h5, h6, h7, h8, z2f hcell hok h9, fun p hp => by
    obtain ⟨e, q1, q2, q3, q4, q5⟩ := h10 p hp
    exact ⟨e, q1, q2, q3, z4J hcell hok q4, z4J hcell hok q5⟩⟩
   ·rw [hown g ⟨k, by unfold bk; rw [hC, h1]; exact List.mem_singleton_self _⟩]
    exact h2
   ·have : m ≠ r := by rintro rfl; exact hm _ _ h4
    rw [hh m this h3.1]
    exact h4
  | nr t it e ie xs =>
   rw [hC] at hB
   obtain ⟨arr, u, vs, cs, h1, h2, h3, h4, h5⟩ := hB
   have hin : ∀ v ∈ u :: vs, ∀ b, v.ownBlock = some b → w'.heap[b]? = w.heap[b]? := fun v hv b hb => hown b ⟨k, by
    unfold bk
    rw [hC, h1]
    exact List.mem_filterMap.2 ⟨v, by rw [h2]; exact hv, hb⟩⟩
   exact ⟨arr, u, vs, cs, h1, h2, z0V h3 (hin u (List.mem_cons_self ..)), z2j hcell hok h4 (fun v hv => hin v (List.mem_cons_of_mem _ hv)), h5⟩
  | nz t it xs =>
   rw [hC] at hB
   obtain ⟨arr, u, vs, h1, h2, h3, h4, h5⟩ := hB
   exact ⟨arr, u, vs, h1, h2, z5i (fun l us q => z0s hcell hok _ l us q) h3, h4, z0s hcell hok _ _ _ h5⟩
  | bz cs =>
   rw [hC] at hB
   obtain ⟨v, h1, h2⟩ := hB
   exact ⟨v, h1, z4m hcell hok (fun _ _ e => e) _ _ h2⟩
  | dead => trivial
 ·have hne : b ≠ r := by rintro rfl; exact hk hb'
  rw [hh b hne (Nat.lt_of_lt_of_le hl h.fr.size)]
  exact h.fr.block b hb' hl
 ·obtain ⟨h1, h0, e, fz, h2⟩ := h.gl.1 g us hg
  refine ⟨hok g h1, h0, e, fz, ?_⟩
  rw [hh g ?_ h1.1]
  ·exact h2
  ·rintro rfl
   exact hc 0 us[0] (by simp [World.cell?, h2, h0])
 ·obtain ⟨h1, v, e, fz, h0, h2⟩ := h.gl.2 g hg
  refine ⟨hok g h1, v, e, fz, h0, ?_⟩
  rw [hh g ?_ h1.1]
  ·exact h2
  ·rintro rfl
   exact hc 0 v (by simp [World.cell?, h2])
theorem HRel.weaken (h : HRel X keep w0 ι C w) {keep1 : Nat → Prop} {w1 : World} (hk : ∀ b, keep1 b → keep b) (hw : Kept keep1 w1 w0) (hl : ∀ b, keep1 b → b < w1.heap.size) (hx : ∀ b, X b → b < w1.heap.size) : HRel X keep1 w1 ι C w :=
 ⟨h.bl, h.inj, hw.trans (h.fr.weak hk), fun b hb hb' => h.own b hb (hk b hb'), hl, h.ox, hx, h.gl⟩
end
end Go.Proofs.Rf
namespace Go.Proofs.Rf
open Go Go.RowKit
section
variable {P : Program} {TT : Tab} {Δ : Nat → Option z0G} {n : Nat → Bool}
end
def Ex.out : Ex → Exit
 | .nm => .normal
 | .ex j => .exit j
 | .rt => .ret
theorem z6X {P : Program} {F : Fence} {dp : Nat} {c : Code} {Q : Exit → Act → World → Prop} (I : Nat → Act → World → Prop) (h0 : ∀ a w, ¬ I 0 a w)
  (round : ∀ k a w, I (k + 1) a w → c.wpIn F dp P (Exit.then (fun a' w' => I k a' w') Q) a w) {k : Nat} {a : Act} {w : World} (h : I k a w) : (Code.loop c).wpIn F dp P Q a w := by
 intro b t cs hro hb hr
 have key : ∀ k a w, I k a w → ∃ e a' w', Q e a' w' ∧ ArrivesIn (Machine.fenced P F) P (lone (b.atR a (.code c :: .inLoop c :: t)) cs w) b t cs e a' w' := by
  intro k
  induction k with
  | zero => exact fun a w hI => (h0 a w hI).elim
  | succ k ih =>
   intro a w hI
   obtain ⟨e, a₁, w₁, hq, harr⟩ := round k a w hI b (.inLoop c :: t) cs hro hb hr
   cases e with
   | normal =>
    obtain ⟨e₂, a₂, w₂, hq₂, harr₂⟩ := ih a₁ w₁ hq
    exact ⟨e₂, a₂, w₂, hq₂, .of_steps (StepsIn.trans harr (.one (fenced_calm hb hr rfl) stepR_inLoop)) harr₂⟩
   | exit id => exact ⟨_, a₁, w₁, hq, .pass (x := .inLoop c) rfl (fun _ _ => .inl (by simp)) harr⟩
   | goto l => exact ⟨_, a₁, w₁, hq, .pass (x := .inLoop c) rfl (fun _ _ => .inl (by simp)) harr⟩
   | ret => exact ⟨_, a₁, w₁, hq, .pass (x := .inLoop c) rfl (fun _ _ => .inl (by simp)) harr⟩
   | panic ch => exact ⟨_, a₁, w₁, hq, .pass (x := .inLoop c) rfl (fun _ _ => .inl (by simp)) harr⟩
   | outgrown => exact ⟨_, a₁, w₁, hq, .pass (x := .inLoop c) rfl (fun _ _ => .inl (by simp)) harr⟩
 obtain ⟨e, a', w', hq, harr⟩ := key k a w h
 exact ⟨e, a', w', hq, .of_steps (.one (fenced_calm hb hr rfl) stepR_loop) harr⟩
structure z2y (keep : Nat → Prop) (w0 : World) (keep' : Nat → Prop) (w0' : World) : Prop where
 mono : ∀ b, keep b → keep' b
 kept : Kept keep w0 w0'
theorem z2y.refl (keep : Nat → Prop) (w0 : World) : z2y keep w0 keep w0 := ⟨fun _ h => h, Kept.refl _ _⟩
theorem z2y.trans {k1 k2 k3 : Nat → Prop} {w1 w2 w3 : World} (h : z2y k1 w1 k2 w2) (k : z2y k2 w2 k3 w3) : z2y k1 w1 k3 w3 :=
 ⟨fun b hb => k.mono b (h.mono b hb), h.kept.trans (k.kept.weak h.mono)⟩
section
variable {P : Program} {TT : Tab} {Δ : Nat → Option z0G} {n : z0L}
def CodeOK (P : Program) (n : z0L) (ρ : Option Nat) (l : z0Y) (c : Code) : Prop :=
 ∀ (dp : Nat) (X keep : Nat → Prop) (w0 w : World) (ι : Nat → Option Value) (s : St) (a : Act) (R : Type) (K : Ex → St → Option R) (r : R) (Q : Exit → Act → World → Prop),
  SRel X keep w0 n ι s a w → l s R K = some r → (∀ e s' a' w' ι' keep' w0', z2y keep w0 keep' w0' → K e s' = some r → SRel X keep' w0' n ι' s' a' w' → Q e.out a' w') → c.wpIn (WF ρ) dp P Q a w
def LoopOK (P : Program) (n : z0L) (ρ : Option Nat) (l : z0Y) (c : Code) : Prop := CodeOK P n ρ l (.loop c)
def LoopsIn (P : Program) (n : z0L) (ρ : Option Nat) (Λ : Nat → Option z0Y) : Code → Prop
 | .seq a b => LoopsIn P n ρ Λ a ∧ LoopsIn P n ρ Λ b
 | .cond _ a b => LoopsIn P n ρ Λ a ∧ LoopsIn P n ρ Λ b
 | .block _ c => LoopsIn P n ρ Λ c
 | .scope c => LoopsIn P n ρ Λ c
 | .loop c => ∀ l, Λ (z1Q c) = some l → LoopOK P n ρ l c
 | .rangeFunc g ps asg body => ∀ l, Λ (z1Q asg) = some l → CodeOK P n ρ l (.rangeFunc g ps asg body)
 | _ => True
theorem z1o {P : Program} {b : Frame} {a : Act} {k : List Item} {cs : List Frame} {w : World} {c : Code} : step P (lone (b.atR a (.code (.scope c) :: k)) cs w) = .next (lone (b.atR a (.code c :: .inScope c :: k)) cs w) :=
 step_lone_go (by simp [stepG, stepG.exec, Frame.atR])
theorem z6J {P : Program} {b : Frame} {a : Act} {k : List Item} {cs : List Frame} {w : World} {c : Code} : step P (lone (b.atR a (.inScope c :: k)) cs w) = .next (lone (b.atR a k) cs w) :=
 step_lone_go (by simp [stepG, stepG.exec, Frame.atR])
def noJump (Q : Exit → Act → World → Prop) : Exit → Act → World → Prop
 | .goto _, _, _ => False
 | e, a, w => Q e a w
theorem wpIn_scope' {F : Fence} {d : Nat} {P : Program} {Q : Exit → Act → World → Prop} {a : Act} {w : World} {c : Code} (h : c.wpIn F d P (noJump Q) a w) : (Code.scope c).wpIn F d P Q a w := by
 intro b k cs hro hb hr
 have h0 : (lone (b.atR a (.code (.scope c) :: k)) cs w).fenced P F := fenced_calm hb hr rfl
 obtain ⟨e, a₁, w₁, hq, harr⟩ := h b (.inScope c :: k) cs hro hb hr
 cases e with
 | normal => exact ⟨.normal, a₁, w₁, hq, .head h0 z1o (StepsIn.trans harr (.one (fenced_calm hb hr rfl) z6J))⟩
 | exit id =>
  have hx : exitTo id (.inScope c :: k) = exitTo id k := by simp [exitTo]
  exact ⟨.exit id, a₁, w₁, hq, fun k' hk => .head h0 z1o (harr.1 k' (by rw [hx]; exact hk)),
   fun hr' hk => let ⟨k₁, h1, h2⟩ := harr.2 hr' (by rw [hx]; exact hk); ⟨k₁, h1, .head h0 z1o h2⟩⟩
 | goto l => exact hq.elim
 | ret => exact ⟨_, a₁, w₁, hq, .of_steps (.one h0 z1o) harr⟩
 | panic ch => exact ⟨_, a₁, w₁, hq, .of_steps (.one h0 z1o) harr⟩
 | outgrown => exact ⟨_, a₁, w₁, hq, .of_steps (.one h0 z1o) harr⟩
theorem z0P (hm : P.follows .mixedOrders = true) (hP : z0n P TT) (hΔ : z0R P Δ) {Λ : Nat → Option z0Y} {X : Nat → Prop} {ρ : Option Nat} {dp : Nat} : ∀ (c : Code), LoopsIn P n ρ Λ c → ∀ {R : Type} {r : R} (s : St) (K : Ex → St → Option R) (Q : Exit → Act → World → Prop) (a : Act) (w : World) (ι : Nat → Option Value) (keep : Nat → Prop) (w0 : World),
  SRel X keep w0 n ι s a w → evC TT Δ n.ok Λ c s K = some r → (∀ e s' a' w' ι' keep' w0', z2y keep w0 keep' w0' → K e s' = some r → SRel X keep' w0' n ι' s' a' w' → Q e.out a' w') → c.wpIn (WF ρ) dp P Q a w
 | .skip, _, _, _, s, K, Q, a, w, ι, keep, w0, h, hev, hQ => wpIn_skip (hQ .nm s a w ι keep w0 (z2y.refl _ _) hev h)
 | .region id ops draw, _, R, r, s, K, Q, a, w, ι, keep, w0, h, hev, hQ => by
  simp only [evC] at hev
  cases draw with
  | false =>
   refine wpIn_region ?_
   have hz : ∀ (l : List Oper) (i : Nat), (zipN i l).map (·.1) = List.range' i l.length := by
    intro l
    induction l with
    | nil => intro i; rfl
    | cons o l ih => intro i; simp [zipN, ih, List.range'_succ]
   have hg : ∀ (l : List Oper) (i : Nat), ∀ p ∈ zipN i l, ∃ k, p.1 = i + k ∧ l[k]? = some p.2 := by
    intro l
    induction l with
    | nil => intro i p hp; cases hp
    | cons o l ih =>
     intro i p hp
     rcases List.mem_cons.1 hp with rfl | hp
     ·exact ⟨0, rfl, rfl⟩
     ·obtain ⟨k, h1, h2⟩ := ih (i + 1) p hp
      exact ⟨k + 1, by omega, by simpa using h2⟩
   have := evOps_seq (ops := ops) (Q := Q) (ρ := ρ) (dp := dp) hP hΔ (zipN 0 ops.toList) s [] a w ι (fun p hp => by
    obtain ⟨k, h1, h2⟩ := hg _ _ p hp
    rw [h1, Nat.zero_add, ← Array.getElem?_toList]
    exact h2) hev h (fun s' lg' a' w' ι' hk h' => hQ .nm s' a' w' ι' keep w0 (z2y.refl _ _) (by simpa using hk) h')
   rw [hz, Array.length_toList, ← List.range_eq_range'] at this
   exact this
  | true =>
   simp only [if_true] at hev
   exact evOps_draw hm hP hΔ (K := fun s' => K .nm s') hev h fun s' a' w' ι' hk h' => hQ .nm s' a' w' ι' keep w0 (z2y.refl _ _) hk h'
 | .seq x y, hL, R, r, s, K, Q, a, w, ι, keep, w0, h, hev, hQ => by
  simp only [evC] at hev
  refine wpIn_seq (z0P hm hP hΔ x hL.1 s _ _ a w ι keep w0 h hev fun e s' a' w' ι' k1 v1 hl hk h' => ?_)
  cases e with
  | nm => exact z0P hm hP hΔ y hL.2 s' K Q a' w' ι' k1 v1 h' hk fun e s2 a2 w2 ι2 k2 v2 hl2 => hQ e s2 a2 w2 ι2 k2 v2 (hl.trans hl2)
  | ex j => exact hQ (.ex j) s' a' w' ι' k1 v1 hl hk h'
  | rt => exact hQ .rt s' a' w' ι' k1 v1 hl hk h'
 | .cond c x y, hL, R, r, s, K, Q, a, w, ι, keep, w0, h, hev, hQ => by
  simp only [evC] at hev
  have hc := z6e h.f.tm c
  split at hev
  ·rename_i g hg
   rw [hg, z0q] at hc
   refine wpIn_cond hc ?_
   split at hev
   ·rename_i ht
    subst ht
    exact z0P hm hP hΔ x hL.1 s K Q a w ι keep w0 h hev hQ
   ·rename_i ht
    have ht : g = false := by simpa using ht
    subst ht
    exact z0P hm hP hΔ y hL.2 s K Q a w ι keep w0 h hev hQ
  ·rename_i hg
   rw [hg] at hc
   simp only [RelV] at hc
   obtain ⟨g, hc⟩ := hc
   obtain ⟨h1, h2⟩ := meet_some hev
   refine wpIn_cond hc ?_
   cases g
   ·exact z0P hm hP hΔ y hL.2 s K Q a w ι keep w0 h h2 hQ
   ·exact z0P hm hP hΔ x hL.1 s K Q a w ι keep w0 h h1 hQ
  ·cases hev
 | .block id c, hL, R, r, s, K, Q, a, w, ι, keep, w0, h, hev, hQ => by
  simp only [evC] at hev
  refine wpIn_block (z0P hm hP hΔ c hL s _ _ a w ι keep w0 h hev fun e s' a' w' ι' k1 v1 hl hk h' => ?_)
  cases e with
  | nm => exact hQ .nm s' a' w' ι' k1 v1 hl hk h'
  | ex j =>
   show Exit.inBlock id Q (.exit j) a' w'
   simp only at hk
   split at hk
   ·rename_i hj
    have hj := Nat.eq_of_beq_eq_true hj
    subst hj
    have := hQ .nm s' a' w' ι' k1 v1 hl hk h'
    simpa [Exit.inBlock, Ex.out] using this
   ·rename_i hj
    have hj : j ≠ id := fun e => hj (by rw [e]; exact Nat.beq_refl id)
    have := hQ (.ex j) s' a' w' ι' k1 v1 hl hk h'
    simpa [Exit.inBlock, hj, Ex.out] using this
  | rt => exact hQ .rt s' a' w' ι' k1 v1 hl hk h'
 | .loop c, hL, R, r, s, K, Q, a, w, ι, keep, w0, h, hev, hQ => by
  simp only [evC] at hev
  split at hev
  ·rename_i l hl
   exact hL l hl dp X keep w0 w ι s a R K r Q h hev hQ
  ·cases hev
 | .rangeFunc g ps asg body, hL, R, r, s, K, Q, a, w, ι, keep, w0, h, hev, hQ => by
  simp only [evC] at hev
  split at hev
  ·rename_i l hl
   exact hL l hl dp X keep w0 w ι s a R K r Q h hev hQ
  ·cases hev
 | .exit id, _, _, _, s, K, Q, a, w, ι, keep, w0, h, hev, hQ => wpIn_exit (hQ (.ex id) s a w ι keep w0 (z2y.refl _ _) hev h)
 | .ret, _, _, _, s, K, Q, a, w, ι, keep, w0, h, hev, hQ => wpIn_ret (hQ .rt s a w ι keep w0 (z2y.refl _ _) hev h)
 | .scope c, hL, R, r, s, K, Q, a, w, ι, keep, w0, h, hev, hQ => by
  simp only [evC] at hev
  refine wpIn_scope' (z0P hm hP hΔ c hL s K _ a w ι keep w0 h hev fun e s' a' w' ι' k1 v1 hl hk h' => ?_)
  have := hQ e s' a' w' ι' k1 v1 hl hk h'
  cases e <;> exact this
 | .label _, _, _, _, s, K, Q, a, w, ι, keep, w0, h, hev, hQ => wpIn_label (hQ .nm s a w ι keep w0 (z2y.refl _ _) hev h)
 | .goto _, _, _, _, _, _, _, _, _, _, _, _, _, hev, _ => by cases hev
 | .refuse _, _, _, _, _, _, _, _, _, _, _, _, _, hev, _ => by cases hev
end
end Go.Proofs.Rf
namespace Go.Proofs.Rf
open Go Go.RowKit
inductive SV where
 | d (agg : Bool) (t : Ty)
 | rf (b : Nat)
 | rs (b sz : Nat)
 | rz (b sz : Nat)
 | pt (b o : Nat)
 | ud
 | fn (f : Nat) (cs : List SV)
 | mp (b : Nat)
 | np
 | mnil
 | nl
 | ro (b : Nat)
 | fs (b sz : Nat)
 | ag (cs : List SV)
 | ve (cs : List SV)
inductive SB where
 | row (t : Ty) (e : Nat)
 | box (e : Nat) (cs : List SV)
 | it
 | map (kt : Ty) (va : Bool) (vt : Ty)
 | mi (kt : Ty) (va : Bool) (vt : Ty)
 | nr (t t2 : Ty) (e ie : Nat)
mutual
@[reducible] def SV.den : SV → Type
 | .d _ t => t.den
 | .rs _ _ => Nat × Nat
 | .rz _ _ => Nat
 | .fn _ cs => SV.denL cs
 | .rf _ => Unit
 | .pt _ _ => Unit
 | .ud => Unit
 | .mp _ => Unit
 | .np => Unit
 | .mnil => Unit
 | .nl => Unit
 | .ro _ => Unit
 | .fs _ _ => Nat × Nat × Nat
 | .ag cs => SV.denL cs
 | .ve cs => SV.denL cs
@[reducible] def SV.denL : List SV → Type
 | [] => Unit
 | a :: r => a.den × SV.denL r
end
@[reducible] def SB.den : SB → Type
 | .row t _ => List t.den
 | .box _ cs => SV.denL cs
 | .it => List UInt8 × Nat
 | .map kt _ vt => List (kt.den × vt.den)
 | .mi kt _ vt => List (kt.den × vt.den)
 | .nr t t2 _ _ => List (t.den × List t2.den)
@[reducible] def denB : List SB → Type
 | [] => Unit
 | a :: r => a.den × denB r
@[reducible] def denS : List (Nat × SV) → Type
 | [] => Unit
 | p :: r => p.2.den × denS r
structure Shape where
 sl : List (Nat × SV)
 bl : List SB
@[reducible] def Shape.den (sh : Shape) : Type := denS sh.sl × denB sh.bl
mutual
def SV.put : (s : SV) → s.den → AV
 | .d agg t, x => avD agg t x
 | .rs b sz, p => .rs b sz p.1 p.2
 | .rz b sz, p => .rs b sz 0 p
 | .fn f cs, x => .fn f (SV.putL cs x)
 | .rf b, _ => .rf b
 | .pt b o, _ => .pt b o
 | .ud, _ => .ud
 | .mp b, _ => .mp b
 | .np, _ => .np
 | .mnil, _ => .mnil
 | .nl, _ => .nl
 | .ro b, _ => .ro b
 | .fs b sz, p => .fs b p.1 sz p.2.1 p.2.2
 | .ag cs, x => .ag (SV.putL cs x)
 | .ve cs, x => .ve (SV.putL cs x)
def SV.putL : (l : List SV) → SV.denL l → List AV
 | [], _ => []
 | a :: r, x => a.put x.1 :: SV.putL r x.2
end
def SB.put : (s : SB) → s.den → Blk
 | .row t e, xs => .row t e xs true
 | .box e cs, x => .box e (SV.putL cs x)
 | .it, p => .it p.1 p.2
 | .map kt va vt, l => .map kt va vt l
 | .mi kt va vt, l => .mi kt va vt l []
 | .nr t t2 e ie, l => .nr t t2 e ie l
def putB : (l : List SB) → denB l → List Blk
 | [], _ => []
 | a :: r, x => a.put x.1 :: putB r x.2
def putS : (l : List (Nat × SV)) → denS l → List (Nat × AV)
 | [], _ => []
 | p :: r, x => (p.1, p.2.put x.1) :: putS r x.2
def Shape.put (sh : Shape) (x : sh.den) : St := ⟨putS sh.sl x.1, putB sh.bl x.2⟩
def eqB : Bool → Bool → Bool
 | true, true | false, false => true
 | _, _ => false
theorem eqB_iff : ∀ {a b : Bool}, eqB a b = true → a = b := by decide
def atN (ρ : List Nat) (b i : Nat) : Bool := match ρ[b]? with
 | some j => Nat.beq j i
 | none => false
theorem z3M {ρ : List Nat} {b i : Nat} (h : atN ρ b i = true) : ρ[b]? = some i := by
 unfold atN at h
 split at h
 ·rename_i j hj
  rw [hj, Nat.eq_of_beq_eq_true h]
 ·cases h
mutual
def SV.take (C : Nat → Blk) (ρ : List Nat) : (s : SV) → AV → Option (s.den × List (Nat × Blk))
 | .d agg t, v => if eqB v.isAg agg = true then dat C t v else none
 | .rf b, .rf i => if atN ρ b i = true then some ((), []) else none
 | .rs b sz, .rs i sz' off len => if (atN ρ b i && Nat.beq sz' sz) = true then some ((off, len), []) else none
 | .rz b sz, .rs i sz' off len => if (atN ρ b i && Nat.beq sz' sz && Nat.beq off 0) = true then some (len, []) else none
 | .pt b o, .pt i o' => if (atN ρ b i && Nat.beq o' o) = true then some ((), []) else none
 | .ud, .ud => some ((), [])
 | .mp b, .mp i => if atN ρ b i = true then some ((), []) else none
 | .np, .np => some ((), [])
 | .mnil, .mnil => some ((), [])
 | .nl, .nl => some ((), [])
 | .fn f cs, .fn g vs => if Nat.beq g f = true then SV.takeL C ρ cs vs else none
 | .ro b, .ro i => if atN ρ b i = true then some ((), []) else none
 | .fs b sz, .fs i j sz' off len => if (atN ρ b i && Nat.beq sz' sz) = true then some ((j, off, len), []) else none
 | .fs _ _, .nl => some ((0, 0, 0), [])
 | .ag cs, .ag vs => SV.takeL C ρ cs vs
 | .ve cs, .ve vs => SV.takeL C ρ cs vs
 | .ve cs, .pt i o => match C i with
  | .box _ vs => if Nat.beq o 0 = true then (match SV.takeL C ρ cs vs with
   | some (x, f) => some (x, f ++ [(i, .bz vs)])
   | none => none) else none
  | _ => none
 | _, _ => none
def SV.takeL (C : Nat → Blk) (ρ : List Nat) : (l : List SV) → List AV → Option (SV.denL l × List (Nat × Blk))
 | [], [] => some ((), [])
 | a :: r, v :: vs => match a.take C ρ v with
  | some (x, f) => match SV.takeL C ρ r vs with
   | some (y, g) => some ((x, y), f ++ g)
   | none => none
  | none => none
 | _, _ => none
end
def oneMore (ρ : List Nat) (b i : Nat) : List Nat := if Nat.beq b ρ.length = true then ρ ++ [i] else ρ
mutual
def SV.blks : List Nat → SV → AV → List Nat
 | ρ, .rf b, .rf i => oneMore ρ b i
 | ρ, .rs b _, .rs i _ _ _ => oneMore ρ b i
 | ρ, .rz b _, .rs i _ _ _ => oneMore ρ b i
 | ρ, .pt b _, .pt i _ => oneMore ρ b i
 | ρ, .mp b, .mp i => oneMore ρ b i
 | ρ, .fn _ cs, .fn _ vs => SV.blksL ρ cs vs
 | ρ, .ag cs, .ag vs => SV.blksL ρ cs vs
 | ρ, .ro b, .ro i => oneMore ρ b i
 | ρ, .fs b _, .fs i _ _ _ _ => oneMore ρ b i
 | ρ, _, _ => ρ
def SV.blksL : List Nat → List SV → List AV → List Nat
 | ρ, a :: r, v :: vs => SV.blksL (SV.blks ρ a v) r vs
 | ρ, _, _ => ρ
end
def blkS (T : Nat → AV) : List (Nat × SV) → List Nat → List Nat
 | [], ρ => ρ
 | p :: r, ρ => blkS T r (SV.blks ρ p.2 (T p.1))
def blkB (C : Nat → Blk) : List SB → Nat → List Nat → List Nat
 | [], _, ρ => ρ
 | .box _ cs :: r, j, ρ => match ρ[j]? with
  | some i => match C i with
   | .box _ vs => blkB C r (j + 1) (SV.blksL ρ cs vs)
   | _ => blkB C r (j + 1) ρ
  | none => blkB C r (j + 1) ρ
 | _ :: r, j, ρ => blkB C r (j + 1) ρ
def takeS (C : Nat → Blk) (T : Nat → AV) (ρ : List Nat) : (l : List (Nat × SV)) → Option (denS l × List (Nat × Blk))
 | [] => some ((), [])
 | p :: r => match p.2.take C ρ (T p.1) with
  | some (x, f) => match takeS C T ρ r with
   | some (y, g) => some ((x, y), f ++ g)
   | none => none
  | none => none
def SB.take (C : Nat → Blk) (ρ : List Nat) : (s : SB) → Blk → Option (s.den × List (Nat × Blk))
 | .row t e, .row t' e' xs true => match t'.eqv t with
  | some h => if Nat.beq e' e = true then some (Ty.z3c h.down xs, []) else none
  | none => none
 | .box e cs, .box e' vs => if Nat.beq e' e = true then SV.takeL C ρ cs vs else none
 | .it, .it s p => some ((s, p), [])
 | .map kt va vt, .map kt' va' vt' l => match kt'.eqv kt, vt'.eqv vt with
  | some h, some k => if eqBB va' va = true then some (Ty.z4I h.down k.down l, []) else none
  | _, _ => none
 | .mi kt va vt, .mi kt' va' vt' l _ => match kt'.eqv kt, vt'.eqv vt with
  | some h, some k => if eqBB va' va = true then some (Ty.z4I h.down k.down l, []) else none
  | _, _ => none
 | .nr t t2 e ie, .nr t' t2' e' ie' l => match t'.eqv t, t2'.eqv t2 with
  | some h, some k => if (Nat.beq e' e && Nat.beq ie' ie) = true then some (Ty.castN h.down k.down l, []) else none
  | _, _ => none
 | _, _ => none
def takeB (C : Nat → Blk) (ρ : List Nat) : (l : List SB) → List Nat → Option (denB l × List (Nat × Blk))
 | [], [] => some ((), [])
 | a :: r, i :: is => match a.take C ρ (C i) with
  | some (x, f) => match takeB C ρ r is with
   | some (y, g) => some ((x, y), f ++ g)
   | none => none
  | none => none
 | _, _ => none
def nodupN : List Nat → Bool
 | [] => true
 | k :: r => !(memN k r) && nodupN r
theorem z3l : ∀ {l : List Nat}, nodupN l = true → l.Nodup
 | [], _ => List.nodup_nil
 | k :: r, h => by
  simp only [nodupN, Bool.and_eq_true, Bool.not_eq_true'] at h
  exact List.nodup_cons.2 ⟨fun hm => (by rw [z1r.2 hm] at h; cases h.1), z3l h.2⟩
def nlfix1 (bl : List SB) (p : Nat × SV) (s : St) : St := match p.2 with
 | .rf b => match getT s.tm p.1, bl[b]? with
  | .nl, some (.row ty e) => ⟨(p.1, .rf s.bl.length) :: s.tm, s.bl ++ [.row ty e [] true]⟩
  | .rs i sz off len, some (.row _ _) => (match getB s.bl i with
   | .row ty' e' xs true => if (Nat.beq off 0 && Nat.beq sz ty'.size && Nat.blt i s.bl.length) = true then ⟨(p.1, .rf s.bl.length) :: s.tm, setB s.bl i .dead ++ [.row ty' e' (xs.take len) true]⟩ else s
   | _ => s)
  | _, _ => s
 | _ => s
def nlfix (bl : List SB) : List (Nat × SV) → St → St
 | [], s => s
 | p :: r, s => nlfix bl r (nlfix1 bl p s)
def rsOf : AV → List Nat
 | .rs i _ _ _ => [i]
 | _ => []
def nlsrc (bl : List SB) : List (Nat × SV) → St → List Nat
 | [], _ => []
 | p :: r, s => rsOf (getT s.tm p.1) ++ nlsrc bl r (nlfix1 bl p s)
def Shape.ids (sh : Shape) (s : St) : List Nat := blkB (getB s.bl) sh.bl 0 (blkS (getT s.tm) sh.sl [])
def hasBz : List (Nat × Blk) → Bool
 | [] => false
 | (_, .bz _) :: _ => true
 | _ :: r => hasBz r
theorem hasBz_upd : ∀ {f : List (Nat × Blk)} {C : Nat → Blk} {k : Nat} {cs : List AV}, hasBz f = false → updC C f k = .bz cs → C k = .bz cs
 | [], _, _, _, _, h => h
 | (j, b) :: r, C, k, cs, h, hu => by
  have hr : hasBz r = false := by cases b <;> first | exact h | cases h
  have h1 := hasBz_upd (C := setC C j b) hr hu
  by_cases e : k = j
  ·subst e
   rw [z0e] at h1
   subst h1
   cases h
  ·rwa [z0f e] at h1
def Shape.take1 (sh : Shape) (s : St) (ρ : List Nat) : Option sh.den :=
 if nodupN ρ = true then match takeS (getB s.bl) (getT s.tm) ρ sh.sl with
  | some (x, f) => match takeB (getB s.bl) ρ sh.bl ρ with
   | some (y, g) => if (meetN ρ (z0J (f ++ g)) || hasBz (f ++ g)) = true then none else some (x, y)
   | none => none
  | none => none
 else none
def nlcell1 (bl : List SB) (i k : Nat) (sv : SV) (s : St) : St := match sv with
 | .rf b => match bl[b]? with
  | some (.row ty e) => (match getB s.bl i with
   | .box be vs => (match vs[k]? with
    | some .nl => if Nat.blt i s.bl.length = true then ⟨s.tm, setB s.bl i (.box be (vs.set k (.rf s.bl.length))) ++ [.row ty e [] true]⟩ else s
    | _ => s)
   | _ => s)
  | _ => s
 | .ro b => match bl[b]? with
  | some (.nr t t2 e ie) => (match getB s.bl i with
   | .box be vs => (match vs[k]? with
    | some .nl => if Nat.blt i s.bl.length = true then ⟨s.tm, setB s.bl i (.box be (vs.set k (.ro s.bl.length))) ++ [.nr t t2 e ie []]⟩ else s
    | _ => s)
   | _ => s)
  | _ => s
 | _ => s
def z5R (bl : List SB) (i : Nat) : Nat → List SV → St → St
 | _, [], s => s
 | k, sv :: r, s => z5R bl i (k + 1) r (nlcell1 bl i k sv s)
def Shape.nlboxes (sh : Shape) : Nat → List SB → St → St
 | _, [], s => s
 | j, .box _ cs :: r, s => match (sh.ids s)[j]? with
  | some i => Shape.nlboxes sh (j + 1) r (z5R sh.bl i 0 cs s)
  | none => Shape.nlboxes sh (j + 1) r s
 | j, .row _ _ :: r, s => Shape.nlboxes sh (j + 1) r s
 | j, .it :: r, s => Shape.nlboxes sh (j + 1) r s
 | j, .map _ _ _ :: r, s => Shape.nlboxes sh (j + 1) r s
 | j, .mi _ _ _ :: r, s => Shape.nlboxes sh (j + 1) r s
 | j, .nr _ _ _ _ :: r, s => Shape.nlboxes sh (j + 1) r s
def Shape.fixd (sh : Shape) (s : St) : St := sh.nlboxes 0 sh.bl (nlfix sh.bl sh.sl s)
def Shape.take (sh : Shape) (s : St) : Option sh.den := sh.take1 (sh.fixd s) (sh.ids (sh.fixd s))
section
variable {X keep : Nat → Prop} {w0 w : World} {ι ι' : Nat → Option Value} {C C0 : Nat → Blk}
def z3e (ρ : List Nat) (ι ι' : Nat → Option Value) : Prop := ∀ b i, ρ[b]? = some i → ι' b = ι i
mutual
theorem SV.z0H {ρ : List Nat} : ∀ (sv : SV) (C0 : Nat → Blk) (v : AV) (u : Value), HRel X keep w0 ι C0 w → z0p C C0 → RelV w (okb X w ι C0) ι v u → ∀ (x : sv.den) (f : List (Nat × Blk)), sv.take C ρ v = some (x, f) →
  Frz X keep w0 ι C C0 w f ∧ ∀ (ok' : Nat → Prop) (ι' : Nat → Option Value), (∀ g, okb X w ι (updC C0 f) g → ok' g) → z3e ρ ι ι' → RelV w ok' ι' (sv.put x) u
 | .d agg t, C0, v, u, h, hf, hv, x, f, ht => by
  simp only [SV.take] at ht
  split at ht
  ·rename_i hag
   obtain ⟨h1, h2⟩ := z3a h hf hv ht
   refine ⟨h1, fun ok' ι' ho hr => ?_⟩
   have hun : v ≠ .un := by rintro rfl; simp [dat] at ht
   have hud : v ≠ .ud := by rintro rfl; simp [dat] at ht
   exact avD_rel hv hun hud (eqB_iff hag) (z0s (fun _ _ _ _ e => e) ho _ _ _ h2)
  ·cases ht
 | .rf b, C0, v, u, h, hf, hv, x, f, ht => by
  cases v <;> simp only [SV.take] at ht <;> (try (cases ht; done))
  rename_i i
  split at ht
  ·rename_i hi
   injection ht with ht
   injection ht with q1 q2
   subst q2
   refine ⟨Frz.nil h hf, fun ok' ι' ho hr => ?_⟩
   simp only [SV.put, RelV] at hv ⊢
   rw [hr b i (z3M hi)]
   exact hv
  ·cases ht
 | .rs b sz, C0, v, u, h, hf, hv, x, f, ht => by
  cases v <;> simp only [SV.take] at ht <;> (try (cases ht; done))
  rename_i i sz' off len
  split at ht
  ·rename_i hi
   simp only [Bool.and_eq_true] at hi
   have hsz := Nat.eq_of_beq_eq_true hi.2
   subst hsz
   injection ht with ht
   injection ht with q1 q2
   subst q1; subst q2
   refine ⟨Frz.nil h hf, fun ok' ι' ho hr => ?_⟩
   simp only [SV.put, RelV] at hv ⊢
   rw [hr b i (z3M hi.1)]
   exact hv
  ·cases ht
 | .rz b sz, C0, v, u, h, hf, hv, x, f, ht => by
  cases v <;> simp only [SV.take] at ht <;> (try (cases ht; done))
  rename_i i sz' off len
  split at ht
  ·rename_i hi
   simp only [Bool.and_eq_true] at hi
   have hsz := Nat.eq_of_beq_eq_true hi.1.2
   subst hsz
   have hof := Nat.eq_of_beq_eq_true hi.2
   subst hof
   injection ht with ht
   injection ht with q1 q2
   subst q1; subst q2
   refine ⟨Frz.nil h hf, fun ok' ι' ho hr => ?_⟩
   simp only [SV.put, RelV] at hv ⊢
   rw [hr b i (z3M hi.1.1)]
   exact hv
  ·cases ht
 | .pt b o, C0, v, u, h, hf, hv, x, f, ht => by
  cases v <;> simp only [SV.take] at ht <;> (try (cases ht; done))
  rename_i i o'
  split at ht
  ·rename_i hi
   simp only [Bool.and_eq_true] at hi
   have hsz := Nat.eq_of_beq_eq_true hi.2
   subst hsz
   injection ht with ht
   injection ht with q1 q2
   subst q2
   refine ⟨Frz.nil h hf, fun ok' ι' ho hr => ?_⟩
   simp only [SV.put, RelV] at hv ⊢
   rw [hr b i (z3M hi.1)]
   exact hv
  ·cases ht
 | .ud, C0, v, u, h, hf, hv, x, f, ht => by
  cases v <;> simp only [SV.take] at ht <;> (try (cases ht; done))
  injection ht with ht
  injection ht with q1 q2
  subst q2
  refine ⟨Frz.nil h hf, fun ok' ι' ho hr => ?_⟩
  simp only [SV.put, RelV] at hv ⊢
  exact hv
 | .np, C0, v, u, h, hf, hv, x, f, ht => by
  cases v <;> simp only [SV.take] at ht <;> (try (cases ht; done))
  injection ht with ht
  injection ht with q1 q2
  subst q2
  refine ⟨Frz.nil h hf, fun ok' ι' ho hr => ?_⟩
  simp only [SV.put, RelV] at hv ⊢
  exact hv
 | .mnil, C0, v, u, h, hf, hv, x, f, ht => by
  cases v <;> simp only [SV.take] at ht <;> (try (cases ht; done))
  injection ht with ht
  injection ht with q1 q2
  subst q2
  refine ⟨Frz.nil h hf, fun ok' ι' ho hr => ?_⟩
  simp only [SV.put, RelV] at hv ⊢
  exact hv
 | .nl, C0, v, u, h, hf, hv, x, f, ht => by
  cases v <;> simp only [SV.take] at ht <;> (try (cases ht; done))
  injection ht with ht
  injection ht with q1 q2
  subst q2
  refine ⟨Frz.nil h hf, fun ok' ι' ho hr => ?_⟩
  simp only [SV.put, RelV] at hv ⊢
  exact hv
 | .mp b, C0, v, u, h, hf, hv, x, f, ht => by
  cases v <;> simp only [SV.take] at ht <;> (try (cases ht; done))
  rename_i i
  split at ht
  ·rename_i hi
   injection ht with ht
   injection ht with q1 q2
   subst q2
   refine ⟨Frz.nil h hf, fun ok' ι' ho hr => ?_⟩
   simp only [SV.put, RelV] at hv ⊢
   rw [hr b i (z3M hi)]
   exact hv
  ·cases ht
 | .fn g cs, C0, v, u, h, hf, hv, x, f, ht => by
  cases v <;> simp only [SV.take] at ht <;> (try (cases ht; done))
  rename_i g' vs
  split at ht
  ·rename_i hg
   have hg := Nat.eq_of_beq_eq_true hg
   subst hg
   simp only [RelV] at hv
   obtain ⟨us, e, h1⟩ := hv
   obtain ⟨k1, k2⟩ := SV.z0S cs C0 vs us h hf h1 x f ht
   refine ⟨k1, fun ok' ι' ho hr => ?_⟩
   simp only [SV.put, RelV]
   exact ⟨us, e, k2 ok' ι' ho hr⟩
  ·cases ht
 | .ro b, C0, v, u, h, hf, hv, x, f, ht => by
  cases v <;> simp only [SV.take] at ht <;> (try (cases ht; done))
  rename_i i
  split at ht
  ·rename_i hi
   injection ht with ht
   injection ht with q1 q2
   subst q2
   refine ⟨Frz.nil h hf, fun ok' ι' ho hr => ?_⟩
   simp only [SV.put, RelV] at hv ⊢
   rw [hr b i (z3M hi)]
   exact hv
  ·cases ht
 | .fs b sz, C0, v, u, h, hf, hv, x, f, ht => by
  cases v <;> simp only [SV.take] at ht <;> (try (cases ht; done))
  ·injection ht with ht
   injection ht with q1 q2
   subst q1; subst q2
   refine ⟨Frz.nil h hf, fun ok' ι' ho hr => ?_⟩
   simp only [SV.put, RelV] at hv ⊢
   exact ⟨none, 0, hv, Nat.le_refl _, fun q => absurd q (by omega)⟩
  ·rename_i i j sz' off len
   split at ht
   ·rename_i hi
    simp only [Bool.and_eq_true] at hi
    have hsz := Nat.eq_of_beq_eq_true hi.2
    subst hsz
    injection ht with ht
    injection ht with q1 q2
    subst q1; subst q2
    refine ⟨Frz.nil h hf, fun ok' ι' ho hr => ?_⟩
    simp only [SV.put, RelV] at hv ⊢
    rw [hr b i (z3M hi.1)]
    exact hv
   ·cases ht
 | .ag cs, C0, v, u, h, hf, hv, x, f, ht => by
  cases v <;> simp only [SV.take] at ht <;> (try (cases ht; done))
  rename_i vs
  simp only [RelV] at hv
  obtain ⟨us, e, h1⟩ := hv
  obtain ⟨k1, k2⟩ := SV.z0S cs C0 vs us h hf h1 x f ht
  refine ⟨k1, fun ok' ι' ho hr => ?_⟩
  simp only [SV.put, RelV]
  exact ⟨us, e, k2 ok' ι' ho hr⟩
 | .ve cs, C0, v, u, h, hf, hv, x, f, ht => by
  cases v <;> simp only [SV.take] at ht <;> (try (cases ht; done))
  ·rename_i i o
   split at ht
   ·rename_i e vs hC
    split at ht
    ·rename_i ho
     have ho := Nat.eq_of_beq_eq_true ho
     subst ho
     split at ht
     ·rename_i x1 f1 e1
      injection ht with ht
      injection ht with q1 q2
      subst q1; subst q2
      simp only [RelV] at hv
      obtain ⟨g, g1, g2⟩ := hv
      obtain ⟨-, v0, z1, z2⟩ := frz_box h hf hC
      rw [g1] at z1
      injection z1 with z1
      subst z1
      obtain ⟨us, w1⟩ : ∃ us, RelL w (okb X w ι C0) ι vs us := by
       have hB := h.bl i
       rcases hf i with h1 | ⟨_, _, _, h1, _⟩ | ⟨_, _, _, _, _, h1, _⟩ | ⟨e', cs', h1, h2⟩
       ·rw [h1, hC] at hB
        obtain ⟨_, us, _, _, b3⟩ := hB
        exact ⟨us, b3⟩
       ·rw [hC] at h1; cases h1
       ·rw [hC] at h1; cases h1
       ·rw [hC] at h1
        injection h1 with _ h1
        subst h1
        rw [h2] at hB
        obtain ⟨v1, _, b2⟩ := hB
        simp only [RelV] at b2
        obtain ⟨_, _, us, _, _, b3, _⟩ := b2
        exact ⟨us, b3⟩
      obtain ⟨k1, -⟩ := SV.z0S cs C0 vs us h hf w1 x1 f1 e1
      obtain ⟨l1, l2⟩ := frz_box k1.1 k1.2.1 hC
      obtain ⟨v2, m1, m2⟩ := l2
      rw [g1] at m1
      injection m1 with m1
      subst m1
      simp only [RelV] at m2
      obtain ⟨g3, o3, us3, m3, m4, m5, m6⟩ := m2
      refine ⟨k1.append l1, fun ok' ι' ho hr => ?_⟩
      rw [z0o] at ho
      obtain ⟨us4, n1, n2⟩ : ∃ us4, (∀ j u, us4[j]? = some u → w.cell? ⟨g3, o3 + j, none⟩ = some u) ∧ RelL w (okb X w ι C0) ι vs us4 := by
       have hB := h.bl i
       rcases hf i with h1 | ⟨_, _, _, h1, _⟩ | ⟨_, _, _, _, _, h1, _⟩ | ⟨e', cs', h1, h2⟩
       ·rw [h1, hC] at hB
        obtain ⟨g5, us5, b1, b2, b3⟩ := hB
        rw [g1] at b1
        injection b1 with b1
        rw [m3] at b1
        injection b1 with b1
        injection b1 with b1
        injection b1 with b1 b4 _
        subst b1; subst b4
        refine ⟨us5, fun j u hu => ?_, b3⟩
        rw [Nat.zero_add]
        simp only [World.cell?, b2]
        simpa using hu
       ·rw [hC] at h1; cases h1
       ·rw [hC] at h1; cases h1
       ·rw [hC] at h1
        injection h1 with _ h1
        subst h1
        rw [h2] at hB
        obtain ⟨v1, b1, b2⟩ := hB
        rw [g1] at b1
        injection b1 with b1
        subst b1
        simp only [RelV] at b2
        obtain ⟨g5, o5, us5, c1, c2, c3, c4⟩ := b2
        rw [m3] at c1
        injection c1 with c1
        injection c1 with c1
        injection c1 with c1 c5 _
        subst c1; subst c5
        exact ⟨us5, c4, c3⟩
      obtain ⟨_, k3⟩ := SV.z0S cs C0 vs us4 h hf n2 x1 f1 e1
      simp only [SV.put, RelV]
      rw [g2, m3]
      exact ⟨g3, o3, us4, rfl, ho g3 m4, k3 ok' ι' (fun g hg => ho g (l1.2.2.ok g hg)) hr, n1⟩
     ·cases ht
    ·cases ht
   ·cases ht
  ·rename_i vs
   simp only [RelV] at hv
   obtain ⟨g, o, us, e, h0, h1, h2⟩ := hv
   obtain ⟨k1, k2⟩ := SV.z0S cs C0 vs us h hf h1 x f ht
   refine ⟨k1, fun ok' ι' ho hr => ?_⟩
   simp only [SV.put, RelV]
   exact ⟨g, o, us, e, ho g (k1.2.2.ok g h0), k2 ok' ι' ho hr, h2⟩
theorem SV.z0S {ρ : List Nat} : ∀ (l : List SV) (C0 : Nat → Blk) (vs : List AV) (us : List Value), HRel X keep w0 ι C0 w → z0p C C0 → RelL w (okb X w ι C0) ι vs us → ∀ (x : SV.denL l) (f : List (Nat × Blk)), SV.takeL C ρ l vs = some (x, f) →
  Frz X keep w0 ι C C0 w f ∧ ∀ (ok' : Nat → Prop) (ι' : Nat → Option Value), (∀ g, okb X w ι (updC C0 f) g → ok' g) → z3e ρ ι ι' → RelL w ok' ι' (SV.putL l x) us
 | [], C0, vs, us, h, hf, hv, x, f, ht => by
  cases vs <;> simp only [SV.takeL] at ht <;> (try (cases ht; done))
  injection ht with ht
  injection ht with q1 q2
  subst q2
  refine ⟨Frz.nil h hf, fun ok' ι' ho hr => ?_⟩
  simp only [SV.putL]
  rw [z0b.1 hv]
  exact z0b.2 rfl
 | a :: r, C0, vs, us, h, hf, hv, x, f, ht => by
  cases vs <;> simp only [SV.takeL] at ht <;> (try (cases ht; done))
  rename_i v vs
  obtain ⟨u, ur, e, h1, h2⟩ := z0a.1 hv
  split at ht
  ·rename_i x1 f1 e1
   split at ht
   ·rename_i x2 f2 e2
    injection ht with ht
    injection ht with q1 q2
    subst q1; subst q2
    obtain ⟨k1, k2⟩ := SV.z0H a C0 v u h hf h1 x1 f1 e1
    obtain ⟨l1, l2⟩ := SV.z0S r (updC C0 f1) vs ur k1.1 k1.2.1 (k1.2.2.vals h2) x2 f2 e2
    refine ⟨k1.append l1, fun ok' ι' ho hr => ?_⟩
    rw [z0o] at ho
    simp only [SV.putL]
    exact z0a.2 ⟨u, ur, e, k2 ok' ι' (fun g hg => ho g (l1.2.2.ok g hg)) hr, l2 ok' ι' ho hr⟩
   ·cases ht
  ·cases ht
end
theorem z3C {ρ : List Nat} {T : Nat → AV} {V : Nat → Value} : ∀ (l : List (Nat × SV)) (C0 : Nat → Blk), HRel X keep w0 ι C0 w → z0p C C0 → (∀ t, RelV w (okb X w ι C0) ι (T t) (V t)) → ∀ (x : denS l) (f : List (Nat × Blk)), takeS C T ρ l = some (x, f) →
  Frz X keep w0 ι C C0 w f ∧ ∀ (ok' : Nat → Prop) (ι' : Nat → Option Value), (∀ g, okb X w ι (updC C0 f) g → ok' g) → z3e ρ ι ι' → ∀ t, RelV w ok' ι' (getT (putS l x) t) (V t)
 | [], C0, h, hf, hT, x, f, ht => by
  simp only [takeS] at ht
  injection ht with ht
  injection ht with q1 q2
  subst q2
  exact ⟨Frz.nil h hf, fun ok' ι' ho hr t => by simp only [putS, getT, RelV]⟩
 | p :: r, C0, h, hf, hT, x, f, ht => by
  simp only [takeS] at ht
  split at ht
  ·rename_i x1 f1 e1
   split at ht
   ·rename_i x2 f2 e2
    injection ht with ht
    injection ht with q1 q2
    subst q1; subst q2
    obtain ⟨k1, k2⟩ := SV.z0H p.2 C0 (T p.1) (V p.1) h hf (hT _) x1 f1 e1
    obtain ⟨l1, l2⟩ := z3C r (updC C0 f1) k1.1 k1.2.1 (fun t => k1.2.2.val (hT t)) x2 f2 e2
    refine ⟨k1.append l1, fun ok' ι' ho hr t => ?_⟩
    rw [z0o] at ho
    simp only [putS, getT]
    split
    ·rename_i hb
     rw [← Nat.eq_of_beq_eq_true hb]
     exact k2 ok' ι' (fun g hg => ho g (l1.2.2.ok g hg)) hr
    ·exact l2 ok' ι' ho hr t
   ·cases ht
  ·cases ht
theorem SB.z0H {ρ : List Nat} (sb : SB) (C0 : Nat → Blk) {i : Nat} (h : HRel X keep w0 ι C0 w) (hf : z0p C C0) (x : sb.den) (f : List (Nat × Blk)) (ht : sb.take C ρ (C i) = some (x, f)) :
  Frz X keep w0 ι C C0 w f ∧ ∀ (C1 : Nat → Blk) (ok' : Nat → Prop) (ι' : Nat → Option Value) (j : Nat), C1 i = C i → RelB w (okb X w ι C1) ι i (C1 i) → (∀ g, okb X w ι (updC C0 f) g → ok' g) → (∀ g, okb X w ι C1 g → ok' g) → z3e ρ ι ι' → ι' j = ι i →
   RelB w ok' ι' j (sb.put x) ∧ ∀ C' : Nat → Blk, C' j = sb.put x → bk ι' C' j = bk ι C1 i := by
 have hC0 := hf i
 cases sb with
 | row t e =>
  cases hC : C i with
  | row t' e' xs rw =>
   rw [hC] at ht
   cases rw with
   | true =>
    simp only [SB.take] at ht
    split at ht
    ·rename_i hty _
     have hty := hty.down
     subst hty
     split at ht
     ·rename_i he
      have he := Nat.eq_of_beq_eq_true he
      subst he
      injection ht with ht
      injection ht with q1 q2
      subst q1; subst q2
      refine ⟨Frz.nil h hf, fun C1 ok' ι' j h1 h2 ho ho1 hr hi => ?_⟩
      rw [h1] at h2
      obtain ⟨v, cs, k1, k2, k3⟩ := h2
      refine ⟨⟨v, cs, by rw [hi]; exact k1, k2, z0u (z0s (fun _ _ _ _ e => e) ho1 _) k3⟩, fun C' hC' => ?_⟩
      unfold bk
      rw [hC', h1, hi]
      rfl
     ·cases ht
    ·cases ht
   | false => cases ht
  | box e cs => rw [hC] at ht; cases ht
  | it s p => rw [hC] at ht; cases ht
  | map _ _ _ _ => rw [hC] at ht; cases ht
  | mi _ _ _ _ _ => rw [hC] at ht; cases ht
  | ms _ _ _ _ _ _ => rw [hC] at ht; cases ht
  | nr _ _ _ _ _ => rw [hC] at ht; cases ht
  | nz _ _ _ => rw [hC] at ht; cases ht
  | bz _ => rw [hC] at ht; cases ht
  | dead => rw [hC] at ht; cases ht
 | box be cs =>
  cases hC : C i with
  | row t' e' xs rw => rw [hC] at ht; cases rw <;> cases ht
  | box be' vs =>
   rw [hC] at ht
   simp only [SB.take] at ht
   split at ht
   ·rename_i hbe
    have hbe := Nat.eq_of_beq_eq_true hbe
    subst hbe
    have hcell : ∃ us, RelL w (okb X w ι C0) ι vs us ∧ ∀ (g : Nat) us', ι i = some (.pointer (some ⟨g, 0, none⟩)) → w.heap[g]? = some (.cells (List.toArray us') be') → us'.length = vs.length → us = us' := by
     have hb := h.bl i
     rcases hC0 with e | ⟨t, e, xs, e1, _⟩ | ⟨_, _, _, _, _, e1, _⟩ | ⟨e', cs', e1, e2⟩
     ·rw [e, hC] at hb
      obtain ⟨g, us, k1, k2, k3⟩ := hb
      refine ⟨us, k3, fun g' us' q1 q2 _ => ?_⟩
      rw [k1] at q1
      injection q1 with q1
      injection q1 with q1
      injection q1 with q1
      injection q1 with q1
      subst q1
      rw [k2] at q2
      injection q2 with q2
      injection q2 with q2
      simpa using q2
     ·rw [hC] at e1; cases e1
     ·rw [hC] at e1; cases e1
     ·rw [hC] at e1
      injection e1 with _ e1
      subst e1
      rw [e2] at hb
      obtain ⟨v1, b1, b2⟩ := hb
      simp only [RelV] at b2
      obtain ⟨g5, o5, us5, c1, c2, c3, c4⟩ := b2
      refine ⟨us5, c3, fun g' us' q1 q2 q3 => ?_⟩
      rw [b1] at q1
      injection q1 with q1
      rw [c1] at q1
      injection q1 with q1
      injection q1 with q1
      injection q1 with q1 c5 _
      subst q1; subst c5
      have hl := z0j c3
      refine List.ext_getElem? fun j => ?_
      rcases Nat.lt_or_ge j us5.length with hj | hj
      ·have := c4 j us5[j] (List.getElem?_eq_getElem hj)
       rw [Nat.zero_add] at this
       simp only [World.cell?, q2] at this
       rw [List.getElem?_eq_getElem hj]
       simpa using this.symm
      ·rw [List.getElem?_eq_none hj, List.getElem?_eq_none (by omega)]
    obtain ⟨us, k3, kk⟩ := hcell
    obtain ⟨l1, l2⟩ := SV.z0S cs C0 vs us h hf k3 x f ht
    refine ⟨l1, fun C1 ok' ι' j h1 h2 ho ho1 hr hi => ?_⟩
    rw [h1] at h2
    obtain ⟨g, us', q1, q2, q3⟩ := h2
    have := kk g us' q1 q2 (z0j q3)
    subst this
    refine ⟨⟨g, us, by rw [hi]; exact q1, q2, l2 ok' ι' ho hr⟩, fun C' hC' => ?_⟩
    unfold bk
    rw [hC', h1, hi, q1]
    rfl
   ·cases ht
  | it s p => rw [hC] at ht; cases ht
  | map _ _ _ _ => rw [hC] at ht; cases ht
  | mi _ _ _ _ _ => rw [hC] at ht; cases ht
  | ms _ _ _ _ _ _ => rw [hC] at ht; cases ht
  | nr _ _ _ _ _ => rw [hC] at ht; cases ht
  | nz _ _ _ => rw [hC] at ht; cases ht
  | bz _ => rw [hC] at ht; cases ht
  | dead => rw [hC] at ht; cases ht
 | it =>
  cases hC : C i with
  | row t' e' xs rw => rw [hC] at ht; cases rw <;> cases ht
  | box _ vs => rw [hC] at ht; cases ht
  | it s p =>
   rw [hC] at ht
   simp only [SB.take] at ht
   injection ht with ht
   injection ht with q1 q2
   subst q1; subst q2
   refine ⟨Frz.nil h hf, fun C1 ok' ι' j h1 h2 ho ho1 hr hi => ?_⟩
   rw [h1] at h2
   obtain ⟨g, k1, k2⟩ := h2
   refine ⟨⟨g, by rw [hi]; exact k1, k2⟩, fun C' hC' => ?_⟩
   unfold bk
   rw [hC', h1, hi]
   rfl
  | map _ _ _ _ => rw [hC] at ht; cases ht
  | mi _ _ _ _ _ => rw [hC] at ht; cases ht
  | ms _ _ _ _ _ _ => rw [hC] at ht; cases ht
  | nr _ _ _ _ _ => rw [hC] at ht; cases ht
  | nz _ _ _ => rw [hC] at ht; cases ht
  | bz _ => rw [hC] at ht; cases ht
  | dead => rw [hC] at ht; cases ht
 | map kt va vt =>
  cases hC : C i with
  | row t' e' xs rw => rw [hC] at ht; cases rw <;> cases ht
  | box _ vs => rw [hC] at ht; cases ht
  | it s p => rw [hC] at ht; cases ht
  | map kt' va' vt' l =>
   rw [hC] at ht
   simp only [SB.take] at ht
   split at ht
   ·rename_i h1 h2 _ _
    obtain ⟨h1⟩ := h1
    obtain ⟨h2⟩ := h2
    subst h1; subst h2
    split at ht
    ·rename_i hva
     have hva := z1t hva
     subst hva
     injection ht with ht
     injection ht with q1 q2
     subst q1; subst q2
     refine ⟨Frz.nil h hf, fun C1 ok' ι' j h1 h2 ho ho1 hr hi => ?_⟩
     rw [h1] at h2
     obtain ⟨g, es, ck, l', k1, k2, k3, k4, k5, k6, k7⟩ := h2
     refine ⟨⟨g, es, ck, l', by rw [hi]; exact k1, k2, k3, k4, k5, z2f (fun _ _ _ _ e => e) ho1 k6, k7⟩, fun C' hC' => ?_⟩
     unfold bk
     rw [hC', h1, hi]
     rfl
    ·cases ht
   ·cases ht
  | mi _ _ _ _ _ => rw [hC] at ht; cases ht
  | ms _ _ _ _ _ _ => rw [hC] at ht; cases ht
  | nr _ _ _ _ _ => rw [hC] at ht; cases ht
  | nz _ _ _ => rw [hC] at ht; cases ht
  | bz _ => rw [hC] at ht; cases ht
  | dead => rw [hC] at ht; cases ht
 | mi kt va vt =>
  cases hC : C i with
  | row t' e' xs rw => rw [hC] at ht; cases rw <;> cases ht
  | box _ vs => rw [hC] at ht; cases ht
  | it s p => rw [hC] at ht; cases ht
  | map _ _ _ _ => rw [hC] at ht; cases ht
  | ms _ _ _ _ _ _ => rw [hC] at ht; cases ht
  | mi kt' va' vt' l cur =>
   rw [hC] at ht
   simp only [SB.take] at ht
   split at ht
   ·rename_i h1 h2 _ _
    obtain ⟨h1⟩ := h1
    obtain ⟨h2⟩ := h2
    subst h1; subst h2
    split at ht
    ·rename_i hva
     have hva := z1t hva
     subst hva
     injection ht with ht
     injection ht with q1 q2
     subst q1; subst q2
     refine ⟨Frz.nil h hf, fun C1 ok' ι' j h1 h2 ho ho1 hr hi => ?_⟩
     rw [h1] at h2
     obtain ⟨g, m, es, ck, since, c0, seen, l', k1, k2, k3, k4, k5, k6, k7, k8, k9, _⟩ := h2
     refine ⟨⟨g, m, es, ck, since, c0, seen, l', by rw [hi]; exact k1, k2, ho1 m k3, k4, k5, k6, k7, k8, z2f (fun _ _ _ _ e => e) ho1 k9, fun p hp => by cases hp⟩, fun C' hC' => ?_⟩
     unfold bk
     rw [hC', h1, hi, k1]
     rfl
    ·cases ht
   ·cases ht
  | nr _ _ _ _ _ => rw [hC] at ht; cases ht
  | nz _ _ _ => rw [hC] at ht; cases ht
  | bz _ => rw [hC] at ht; cases ht
  | dead => rw [hC] at ht; cases ht
 | nr t it e ie =>
  cases hC : C i with
  | row t' e' xs rw => rw [hC] at ht; cases rw <;> cases ht
  | box _ vs => rw [hC] at ht; cases ht
  | it s p => rw [hC] at ht; cases ht
  | map _ _ _ _ => rw [hC] at ht; cases ht
  | mi _ _ _ _ _ => rw [hC] at ht; cases ht
  | ms _ _ _ _ _ _ => rw [hC] at ht; cases ht
  | nr t' it' e' ie' l =>
   rw [hC] at ht
   simp only [SB.take] at ht
   split at ht
   ·rename_i h1 h2 _ _
    obtain ⟨h1⟩ := h1
    obtain ⟨h2⟩ := h2
    subst h1; subst h2
    split at ht
    ·rename_i hva
     rw [Bool.and_eq_true] at hva
     have q1 := Nat.eq_of_beq_eq_true hva.1
     have q2 := Nat.eq_of_beq_eq_true hva.2
     subst q1; subst q2
     injection ht with ht
     injection ht with q1 q2
     subst q1; subst q2
     refine ⟨Frz.nil h hf, fun C1 ok' ι' j h1 h2 ho ho1 hr hi => ?_⟩
     rw [h1] at h2
     obtain ⟨arr, u, vs, cs, k1, k2, k3, k4, k5⟩ := h2
     refine ⟨⟨arr, u, vs, cs, by rw [hi]; exact k1, k2, k3, z2j (fun _ _ _ _ e => e) ho1 k4 (fun _ _ _ _ => rfl), k5⟩, fun C' hC' => ?_⟩
     unfold bk
     rw [hC', h1, hi]
     rfl
    ·cases ht
   ·cases ht
  | nz _ _ _ => rw [hC] at ht; cases ht
  | bz _ => rw [hC] at ht; cases ht
  | dead => rw [hC] at ht; cases ht
theorem z3D {ρ : List Nat} : ∀ (l : List SB) (is : List Nat) (j0 : Nat) (C0 : Nat → Blk), HRel X keep w0 ι C0 w → z0p C C0 → (∀ k i, is[k]? = some i → ρ[j0 + k]? = some i) → ∀ (x : denB l) (f : List (Nat × Blk)), takeB C ρ l is = some (x, f) →
  Frz X keep w0 ι C C0 w f ∧ l.length = is.length ∧ ∀ (C1 : Nat → Blk) (ok' : Nat → Prop) (ι' : Nat → Option Value), (∀ i ∈ is, C1 i = C i) → (∀ i, RelB w (okb X w ι C1) ι i (C1 i)) → (∀ g, okb X w ι (updC C0 f) g → ok' g) → (∀ g, okb X w ι C1 g → ok' g) → z3e ρ ι ι' →
   ∀ k i, is[k]? = some i → RelB w ok' ι' (j0 + k) (getB (putB l x) k) ∧ ∀ C' : Nat → Blk, C' (j0 + k) = getB (putB l x) k → bk ι' C' (j0 + k) = bk ι C1 i
 | [], is, j0, C0, h, hf, hi, x, f, ht => by
  cases is <;> simp only [takeB] at ht <;> (try (cases ht; done))
  injection ht with ht
  injection ht with q1 q2
  subst q2
  exact ⟨Frz.nil h hf, rfl, fun C1 ok' ι' _ _ _ _ _ k i hk => by simp at hk⟩
 | a :: r, is, j0, C0, h, hf, hi, x, f, ht => by
  cases is <;> simp only [takeB] at ht <;> (try (cases ht; done))
  rename_i i0 is
  split at ht
  ·rename_i x1 f1 e1
   split at ht
   ·rename_i x2 f2 e2
    injection ht with ht
    injection ht with q1 q2
    subst q1; subst q2
    obtain ⟨k1, k2⟩ := SB.z0H a C0 h hf x1 f1 e1
    obtain ⟨l1, l2, l3⟩ := z3D r is (j0 + 1) (updC C0 f1) k1.1 k1.2.1 (fun k i hk => by
     have := hi (k + 1) i (by simpa using hk)
     rwa [show j0 + 1 + k = j0 + (k + 1) by omega]) x2 f2 e2
    refine ⟨k1.append l1, by simp [l2], fun C1 ok' ι' hC1 hB ho ho1 hr k i hk => ?_⟩
    rw [z0o] at ho
    cases k with
    | zero =>
     simp only [List.getElem?_cons_zero, Option.some.injEq] at hk
     subst hk
     exact k2 C1 ok' ι' j0 (hC1 _ (List.mem_cons_self ..)) (hB _) (fun g hg => ho g (l1.2.2.ok g hg)) ho1 hr (hr _ _ (hi 0 _ rfl))
    | succ k =>
     have := l3 C1 ok' ι' (fun i hi => hC1 i (List.mem_cons_of_mem _ hi)) hB ho ho1 hr k i (by simpa using hk)
     rw [show j0 + 1 + k = j0 + (k + 1) by omega] at this
     exact this
   ·cases ht
  ·cases ht
theorem z0N : ∀ (l : List SB) (x : denB l), (putB l x).length = l.length
 | [], _ => rfl
 | _ :: r, x => by simp [putB, z0N r x.2]
def Bx (ι : Nat → Option Value) (C : Nat → Blk) (b : Nat) : Prop := ∃ k e vs, C k = .box e vs ∧ b ∈ bk ι C k
theorem Bx_of {ι ι' : Nat → Option Value} {C C' : Nat → Blk} (h : ∀ k e vs, C k = .box e vs → (∃ e' vs', C' k = .box e' vs') ∧ ι' k = ι k) {b : Nat} : Bx ι C b → Bx ι' C' b := by
 rintro ⟨k, e, vs, h1, h2⟩
 obtain ⟨⟨e', vs', h3⟩, h4⟩ := h k e vs h1
 refine ⟨k, e', vs', h3, ?_⟩
 have : bk ι' C' k = bk ι C k := by
  unfold bk
  rw [h3, h1, h4]
  cases ι k with
  | none => rfl
  | some v =>
   cases v <;> (try rfl)
   rename_i p
   cases p <;> rfl
 rw [this]
 exact h2
theorem Shape.take1_sound {n : z0L} {sh : Shape} {s : St} {a : Act} {ρ : List Nat} (h : SRel X keep w0 n ι s a w) {x : sh.den} (ht : sh.take1 s ρ = some x) (Y : Nat → Prop) (hY : ∀ b, Y b → Bx ι (getB s.bl) b ∧ b < w0.heap.size ∧ ∀ i ∈ ρ, b ∉ bk ι (getB s.bl) i) :
  ∃ ι', z3e ρ ι ι' ∧ SRel (fun b => X b ∨ Y b) keep w0 n ι' (sh.put x) a w ∧ ∀ b, owned ι' (getB (sh.put x).bl) b → ∃ i ∈ ρ, b ∈ bk ι (getB s.bl) i := by
 unfold Shape.take1 at ht
 split at ht
 ·rename_i hnd
  have hnd := z3l hnd
  split at ht
  ·rename_i x1 f1 e1
   split at ht
   ·rename_i x2 f2 e2
    split at ht
    ·cases ht
    ·rename_i hmt
     rw [Bool.or_eq_true, not_or] at hmt
     have hbz : hasBz (f1 ++ f2) = false := by simpa using hmt.2
     have hmt : meetN ρ (z0J (f1 ++ f2)) = false := by simpa using hmt.1
     injection ht with ht
     subst ht
     obtain ⟨a1, a2⟩ := z3C sh.sl _ h.f.h (z0p.refl _) h.f.tm x1 f1 e1
     obtain ⟨b1, b2, b3⟩ := z3D sh.bl ρ 0 _ a1.1 a1.2.1 (fun k i hk => by rw [Nat.zero_add]; exact hk) x2 f2 e2
     have hF := a1.append b1
     let C1 := updC (getB s.bl) (f1 ++ f2)
     have hC1 : C1 = updC (updC (getB s.bl) f1) f2 := z0o _ _ _
     let ι' : Nat → Option Value := fun j => (ρ[j]?).bind ι
     have hι' : z3e ρ ι ι' := fun j i e => by show (ρ[j]?).bind ι = _; rw [e]; rfl
     let C' := getB (putB sh.bl x2)
     have hHR : HRel X keep w0 ι C1 w := hF.1
     have same : ∀ i ∈ ρ, C1 i = getB s.bl i := fun i hi => z1T _ _ _ (z1n hmt i hi)
     have hbk : ∀ j b, b ∈ bk ι' C' j → ∃ i, ρ[j]? = some i ∧ b ∈ bk ι C1 i := by
      intro j b hb
      cases hi : ρ[j]? with
      | none =>
       have h1 : C' j = .dead := z2K _ _ (by rw [z0N, b2]; exact List.getElem?_eq_none_iff.1 hi)
       rw [z0O h1] at hb
       cases hb
      | some i =>
       refine ⟨i, rfl, ?_⟩
       have := (b3 C1 (fun _ => True) ι' same hHR.bl (fun _ _ => trivial) (fun _ _ => trivial) hι' j i hi).2 C' (by rw [Nat.zero_add])
       rw [Nat.zero_add] at this
       rw [← this]
       exact hb
     have hown : ∀ b, owned ι' C' b → owned ι C1 b := by
      rintro b ⟨j, hj⟩
      obtain ⟨i, _, hi⟩ := hbk j b hj
      exact ⟨i, hi⟩
     have hYo : ∀ b, Y b → owned ι C1 b := by
      intro b hb
      obtain ⟨⟨k, _, vs, q1, q2⟩, _, _⟩ := hY b hb
      refine ⟨k, ?_⟩
      have : bk ι C1 k = bk ι (getB s.bl) k := by
       refine z0z ?_ rfl
       rcases hF.2.1 k with q | ⟨t, e, xs, q, _⟩ | ⟨_, _, _, _, _, q, _⟩ | ⟨e, cs, q, q3⟩
       ·exact q
       ·rw [q1] at q; cases q
       ·rw [q1] at q; cases q
       ·have := hasBz_upd hbz q3
        rw [q] at this; cases this
      rw [this]
      exact q2
     have hok : ∀ b, okb X w ι C1 b → okb (fun b => X b ∨ Y b) w ι' C' b := fun b hb => ⟨hb.1, fun ho => hb.2.1 (hown b ho), fun hx => hx.elim hb.2.2 fun hy => hb.2.1 (hYo b hy)⟩
     have hfin : ∀ b, owned ι' (getB (sh.put (x1, x2)).bl) b → ∃ i ∈ ρ, b ∈ bk ι (getB s.bl) i := by
      rintro b ⟨j, hj⟩
      obtain ⟨i, hi, hb⟩ := hbk j b hj
      have hm : i ∈ ρ := List.mem_of_getElem? hi
      exact ⟨i, hm, by rw [← z0z (ι := ι) (ι' := ι) (same i hm) rfl]; exact hb⟩
     refine ⟨ι', hι', ⟨⟨⟨fun j => ?_, fun j j' b h1 h2 => ?_, hHR.fr, fun b hb => hHR.own b (hown b hb), hHR.kl, fun b hb hx => hx.elim (hHR.ox b (hown b hb)) fun hy => (by
      obtain ⟨j, hj⟩ := hb
      obtain ⟨i, hi, hb'⟩ := hbk j b hj
      have hm : i ∈ ρ := List.mem_of_getElem? hi
      exact (hY b hy).2.2 i hm (by rw [← z0z (ι := ι) (ι' := ι) (same i hm) rfl]; exact hb')), fun b hb => hb.elim (hHR.xl b) fun hy => (hY b hy).2.1, hHR.gl.mono fun g hg => ⟨hok g hg, rfl⟩⟩, fun t => ?_, h.f.size, h.f.defers⟩, fun j hj => ?_⟩, hfin⟩
     ·show RelB w (okb (fun b => X b ∨ Y b) w ι' C') ι' j (C' j)
      cases hi : ρ[j]? with
      | none =>
       have h1 : C' j = .dead := z2K _ _ (by rw [z0N, b2]; exact List.getElem?_eq_none_iff.1 hi)
       rw [h1]
       trivial
      | some i =>
       have := (b3 C1 (okb (fun b => X b ∨ Y b) w ι' C') ι' same hHR.bl (fun g hg => hok g (by rw [hC1]; exact hg)) hok hι' j i hi).1
       rw [Nat.zero_add] at this
       exact this
     ·obtain ⟨i, hi, hb⟩ := hbk j b h1
      obtain ⟨i', hi', hb'⟩ := hbk j' b h2
      have e := hHR.inj i i' b hb hb'
      subst e
      have hlt := (List.getElem?_eq_some_iff.1 hi).1
      exact (List.getElem?_inj hlt hnd).1 (hi.trans hi'.symm)
     ·exact a2 (okb (fun b => X b ∨ Y b) w ι' C') ι' (fun g hg => hok g (by rw [hC1]; exact b1.2.2.ok g hg)) hι' t
     ·have hl : (sh.put (x1, x2)).bl.length = ρ.length := by rw [← b2]; exact z0N _ _
      show (ρ[j]?).bind ι = none
      rw [List.getElem?_eq_none (by omega)]
      rfl
   ·cases ht
  ·cases ht
 ·cases ht
end
end Go.Proofs.Rf
