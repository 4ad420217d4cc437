/- Texts put together: Hb, Hc, Hd, Fk, Fl, Fm, Fn, Fo, Fp, Fq, Fr. -/
import Derived.Test.YtfabaiiobdhocaaDoorM0
import Derived.ChangeKeysEq
import Derived.Lib.Builder
import Derived.Lib.UnsafeStr
import Derived.Lib.AppendStr
import Derived.Laws.BytesArg
import Derived.Laws.Externs
import Derived.CallsIn
import Derived.OrdersIn
/- Rf, part jb: structs and arrays held against each other. -/
namespace Go.Proofs.Rf
open Go Go.RowKit
section
variable {w : World} {ι : Nat → Option Value} {P : Program} {TT : Tab}

theorem kindOf_und (hP : TabOK P TT) {tt : Nat} {k : TK} (hk : kindOf TT tt = k) (hne : k ≠ .oth) : ∃ td, TT tt = some td ∧ td.k = k ∧ UndOK P tt k := by
  unfold kindOf at hk
  split at hk
  · rename_i td htd
    refine ⟨td, htd, hk, ?_⟩
    rw [← hk]
    exact (hP tt td htd).und
  · exact (hne hk.symm).elim

mutual
theorem eqV_sound (hP : TabOK P TT) {ok : Nat → Prop} : ∀ (n tt : Nat) (a b : AV) (va vb : Value) (r : Bool), eqV TT n tt a b = some r → RelV w ok ι a va → RelV w ok ι b vb → ∀ d, (Op.equalIn (d + n) tt va vb).run P w = .ok r w
  | 0, _, _, _, _, _, _, h, _, _, _ => by cases h
  | n + 1, tt, a, b, va, vb, r, h, ha, hb, d => by
    simp only [eqV] at h
    split at h
    · rename_i k hk
      obtain ⟨td, _, _, hu⟩ := kindOf_und hP hk (by intro q; cases q)
      have hu : P.underlying tt = some (.int k) := hu
      split at h
      · rename_i j x j' y
        split at h
        · rename_i hj
          have hj := ikEq_eq hj
          subst hj
          injection h with h
          rw [rel_int] at ha hb
          subst ha; subst hb; subst h
          simp [Op.equalIn, run_und hu]
        · cases h
      · cases h
    · rename_i hk
      obtain ⟨td, _, _, hu⟩ := kindOf_und hP hk (by intro q; cases q)
      have hu : P.underlying tt = some .bool := hu
      split at h
      · injection h with h
        rw [rel_bool] at ha hb
        subst ha; subst hb; subst h
        simp [Op.equalIn, run_und hu]
      · cases h
    · rename_i hk
      obtain ⟨td, _, _, hu⟩ := kindOf_und hP hk (by intro q; cases q)
      have hu : P.underlying tt = some .string := hu
      split at h
      · injection h with h
        rw [rel_str] at ha hb
        subst ha; subst hb; subst h
        simp [Op.equalIn, run_und hu, beq_toListBytes]
      · cases h
    · rename_i e hk
      rw [← hk] at h
      exact eqPM_sound hP ha hb h (d + n)
    · rename_i fs hk
      obtain ⟨td, htd, _, fields, hu, hfs⟩ := kindOf_und hP hk (by intro q; cases q)
      split at h
      · rename_i cs ds
        split at h
        · rename_i hc
          unfold cmpT at hc
          rw [htd] at hc
          obtain ⟨hn, hsi⟩ := ((hP tt td htd).cm hc).1 fields hu
          simp only [RelV] at ha hb
          obtain ⟨us, rfl, h1⟩ := ha
          obtain ⟨vs, rfl, h2⟩ := hb
          have hfo : P.fieldsOf tt = fields := by simp [Program.fieldsOf, hu]
          rw [show d + (n + 1) = (d + n) + 1 from rfl, run_equalIn_struct w (d + n) tt us.toArray vs.toArray (by rw [hfo]; exact hu) hsi, hfo]
          exact eqF_sound hP n fs cs ds us vs r h h1 h2 d fields.toList hfs hn
        · cases h
      · cases h
    · rename_i m e hk
      obtain ⟨td, htd, _, hu⟩ := kindOf_und hP hk (by intro q; cases q)
      have hu : P.underlying tt = some (.array m e) := hu
      split at h
      · rename_i cs ds
        split at h
        · rename_i hs
          obtain ⟨te, hte⟩ := Option.isSome_iff_exists.1 hs
          obtain ⟨i, z, i1, i2, _⟩ := (hP e te hte).ex
          simp only [RelV] at ha hb
          obtain ⟨us, rfl, h1⟩ := ha
          obtain ⟨vs, rfl, h2⟩ := hb
          rw [show d + (n + 1) = (d + n) + 1 from rfl, run_equalIn_array w (d + n) us.toArray vs.toArray hu i1]
          have hce : P.cellsOf e = sizeT TT e := by simp [Program.cellsOf, i1, sizeT, hte, i2]
          rw [hce, List.range_eq_range']
          exact eqA_sound hP n e m 0 cs ds us vs r h h1 h2 d
        · cases h
      · cases h
    · cases h
theorem eqF_sound (hP : TabOK P TT) {ok : Nat → Prop} : ∀ (n : Nat) (fs : List (Nat × Nat)) (cs ds : List AV) (us vs : List Value) (r : Bool), eqF TT n fs cs ds = some r → RelL w ok ι cs us → RelL w ok ι ds vs → ∀ (d : Nat) (fields : List Field),
    fields.map (fun f => (f.offset, f.type)) = fs → (fields.all fun f => f.name != "_") = true → (Op.eqFields (d + n) us.toArray vs.toArray fields).run P w = .ok r w
  | 0, _, _, _, _, _, _, h, _, _, _, _, _, _ => by cases h
  | n + 1, [], cs, ds, us, vs, r, h, _, _, d, fields, hf, _ => by
    have : fields = [] := List.map_eq_nil_iff.1 hf
    subst this
    simp only [eqF] at h
    injection h with h
    subst h
    simp [Op.eqFields]
  | n + 1, p :: q, cs, ds, us, vs, r, h, h1, h2, d, fields, hf, hn => by
    cases fields with
    | nil => cases hf
    | cons f fl =>
      simp only [List.map_cons, List.cons.injEq] at hf
      obtain ⟨hf1, hf2⟩ := hf
      simp only [List.all_cons, Bool.and_eq_true] at hn
      have hnm : f.name ≠ "_" := by simpa using hn.1
      simp only [eqF] at h
      split at h
      · rename_i x y hx hy
        split at h
        · rename_i u v hu hv
          injection h with h
          subst h
          rw [← hf1] at hx hy hu
          obtain ⟨vx, r1, r2⟩ := part_sound hP h1 hx
          obtain ⟨vy, r3, r4⟩ := part_sound hP h2 hy
          have e1 := eqV_sound hP n f.type x y vx vy u hu r2 r4 (d + 1)
          have e2 := eqF_sound hP n q cs ds us vs v hv h1 h2 (d + 1) fl hf2 hn.2
          rw [show d + 1 + n = d + (n + 1) by omega] at e1 e2
          have r1 : (part f.type us.toArray f.offset).run P w = .ok vx w := r1
          have r3 : (part f.type vs.toArray f.offset).run P w = .ok vy w := r3
          simp only [Op.eqFields, hnm, ne_eq, not_false_eq_true, if_true, Sem.run_bind, r1, r3, e1, Result.andThen_ok, Sem.run_ite]
          cases u
          · simp
          · simpa using e2
        · cases h
      · cases h
theorem eqA_sound (hP : TabOK P TT) {ok : Nat → Prop} : ∀ (n e m i : Nat) (cs ds : List AV) (us vs : List Value) (r : Bool), eqA TT n e m i cs ds = some r → RelL w ok ι cs us → RelL w ok ι ds vs → ∀ (d : Nat),
    (Op.eqItems (d + n) e (sizeT TT e) us.toArray vs.toArray (List.range' i m)).run P w = .ok r w
  | 0, _, _, _, _, _, _, _, _, h, _, _, _ => by cases h
  | n + 1, e, 0, i, cs, ds, us, vs, r, h, _, _, d => by
    simp only [eqA] at h
    injection h with h
    subst h
    simp [Op.eqItems]
  | n + 1, e, m + 1, i, cs, ds, us, vs, r, h, h1, h2, d => by
    simp only [eqA] at h
    split at h
    · rename_i x y hx hy
      split at h
      · rename_i u v hu hv
        injection h with h
        subst h
        obtain ⟨vx, r1, r2⟩ := part_sound hP h1 hx
        obtain ⟨vy, r3, r4⟩ := part_sound hP h2 hy
        have e1 := eqV_sound hP n e x y vx vy u hu r2 r4 (d + 1)
        have e2 := eqA_sound hP n e m (i + 1) cs ds us vs v hv h1 h2 (d + 1)
        rw [show d + 1 + n = d + (n + 1) by omega] at e1 e2
        rw [List.range'_succ]
        simp only [Op.eqItems, Sem.run_bind, r1, r3, e1, Result.andThen_ok, Sem.run_ite]
        cases u
        · simp
        · simpa using e2
      · cases h
    · cases h
end

theorem eqAny_sound (hP : TabOK P TT) {ok : Nat → Prop} {tt : Nat} {a b : AV} {va vb : Value} {op : BinOp} {x y : Operand} (ha : RelV w ok ι a va) (hb : RelV w ok ι b vb) {r : Bool} (h : eqAny TT tt a b = some r) :
    (eqGuard op tt x y va vb).run P w = .ok () w ∧ (Op.equal tt va vb).run P w = .ok r w ∧ ((∃ A B, va = .pointer A ∧ vb = .pointer B) ∨ (∃ A B, va = .map A ∧ vb = .map B) ∨ ∃ A B, va = .agg A ∧ vb = .agg B) := by
  unfold eqAny at h
  split at h
  · rename_i q hq
    injection h with h
    subst h
    have h1 : (Op.equal tt va vb).run P w = .ok q w := eqPM_sound hP ha hb hq 9999
    rcases eqPM_vals ha hb hq with ⟨A, B, rfl, rfl⟩ | ⟨A, B, rfl, rfl⟩
    · exact ⟨eqGuard_ptr, h1, .inl ⟨_, _, rfl, rfl⟩⟩
    · exact ⟨eqGuard_map, h1, .inr (.inl ⟨_, _, rfl, rfl⟩)⟩
  · have key : cmpT TT tt = true → eqV TT 64 tt a b = some r → (∃ A, va = .agg A) → (∃ B, vb = .agg B) → (eqGuard op tt x y va vb).run P w = .ok () w ∧ (Op.equal tt va vb).run P w = .ok r w ∧ ((∃ A B, va = .pointer A ∧ vb = .pointer B) ∨ (∃ A B, va = .map A ∧ vb = .map B) ∨ ∃ A B, va = .agg A ∧ vb = .agg B) := by
      rintro hc he ⟨A, rfl⟩ ⟨B, rfl⟩
      unfold cmpT at hc
      split at hc
      · rename_i td htd
        have hg := ((hP tt td htd).cm hc).2
        exact ⟨run_eqGuard_agg w op tt x y A B hg, eqV_sound hP 64 tt a b _ _ r he ha hb 9936, .inr (.inr ⟨_, _, rfl, rfl⟩)⟩
      · cases hc
    have ags : ∀ {n : Nat} {fs : TK}, kindOf TT tt = fs → fs.agg = true → eqV TT (n + 1) tt a b = some r → (∃ A, va = .agg A) ∧ ∃ B, vb = .agg B := by
      intro n fs hk hg he
      simp only [eqV] at he
      rw [hk] at he
      cases fs <;> (try (cases hg; done)) <;> simp only at he <;> split at he <;> (try (cases he; done))
      · simp only [RelV] at ha hb
        obtain ⟨us, rfl, _⟩ := ha
        obtain ⟨vs, rfl, _⟩ := hb
        exact ⟨⟨_, rfl⟩, ⟨_, rfl⟩⟩
      · simp only [RelV] at ha hb
        obtain ⟨us, rfl, _⟩ := ha
        obtain ⟨vs, rfl, _⟩ := hb
        exact ⟨⟨_, rfl⟩, ⟨_, rfl⟩⟩
    split at h
    · rename_i fs hk
      split at h
      · rename_i hc
        obtain ⟨q1, q2⟩ := ags hk rfl h
        exact key hc h q1 q2
      · cases h
    · rename_i m e hk
      split at h
      · rename_i hc
        obtain ⟨q1, q2⟩ := ags hk rfl h
        exact key hc h q1 q2
      · cases h
    · cases h

theorem eqNil_sound (hP : TabOK P TT) {ok : Nat → Prop} {tt : Nat} {op : BinOp} {a b : AV} {va vb : Value} {x y : Operand} (ha : RelV w ok ι a va) (hb : RelV w ok ι b vb) {r : Bool} (h : eqNil TT tt op a b = some r) :
    ∃ v, (do eqGuard op tt x y va vb; binOp op tt va vb : Sem Value).run P w = .ok v w ∧ RelV w ok ι (.d .bool r) v := by
  unfold eqNil at h
  split at h
  · refine ⟨.bool r, ?_, rel_bool.2 rfl⟩
    obtain ⟨g, h1, hv⟩ := eqAny_sound (op := .eql) (x := x) (y := y) hP ha hb h
    rcases hv with ⟨A, B, rfl, rfl⟩ | ⟨A, B, rfl, rfl⟩ | ⟨A, B, rfl, rfl⟩ <;> simp only [Sem.run_bind, g, Result.andThen_ok, binOp, h1, Sem.run_pure]
  · split at h
    · rename_i q hq
      injection h with h
      subst h
      refine ⟨.bool (!q), ?_, rel_bool.2 rfl⟩
      obtain ⟨g, h1, hv⟩ := eqAny_sound (op := .neq) (x := x) (y := y) hP ha hb hq
      rcases hv with ⟨A, B, rfl, rfl⟩ | ⟨A, B, rfl, rfl⟩ | ⟨A, B, rfl, rfl⟩ <;> simp only [Sem.run_bind, g, Result.andThen_ok, binOp, h1, Sem.run_pure]
    · cases h
  · cases h
end
end Go.Proofs.Rf
/- Rf, part jc: unsafe pointers, a slice's data as a string, a string appended to bytes. -/
namespace Go.Proofs.Rf
open Go Go.RowKit
section
variable {X keep : Nat → Prop} {w0 w : World} {ι : Nat → Option Value} {C : Nat → Blk} {P : Program} {TT : Tab}

theorem RzL_bytes {ok : Nat → Prop} : ∀ {xs : List Int} {cs : List Value}, RzL (Rz w ok (.int .u8)) xs cs → cs = xs.map (Value.int .u8)
  | [], _, h => h
  | x :: r, _, ⟨us, vr, e, h1, h2⟩ => by
    have h1 : us = [.int .u8 x] := h1
    rw [e, h1, RzL_bytes h2]
    rfl

theorem unsf_nat {R : Type} (C : Nat → Blk) (k k' : TK) (y : AV) (K : AV → Option R) : unsf TT C k k' y K = (unsf TT C k k' y some).bind K := by
  unfold unsf
  split
  · split
    · split <;> rfl
    · rfl
  · split
    · split <;> rfl
    · rfl
  · rfl

theorem sdata_nat {R : Type} (C : Nat → Blk) (x : AV) (K : AV → Option R) : sdata C x K = (sdata C x some).bind K := by
  unfold sdata
  split
  · rfl
  · split
    · split <;> rfl
    · rfl
  · rfl

theorem ustr_nat {R : Type} (tt : Nat) (C : Nat → Blk) (x y : AV) (K : Eff → Option R) : ustr TT tt C x y K = (ustr TT tt C x y some).bind K := by
  unfold ustr
  split
  · split
    · split
      · split
        · split <;> rfl
        · rfl
      · rfl
    · rfl
  · split <;> rfl
  · rfl

theorem appStr_nat {R : Type} (tt' e : Nat) (te : TD) (C : Nat → Blk) (nb : Nat) (x y : AV) (K : Eff → Option R) : appStr TT tt' e te C nb x y K = (appStr TT tt' e te C nb x y some).bind K := by
  unfold appStr
  split
  · split
    · split
      · split <;> rfl
      · split
        · split
          · split <;> rfl
          · rfl
        · rfl
      · rfl
    · rfl
  · rfl

theorem sizeT_cells (hP : TabOK P TT) {e : Nat} (h : (TT e).isSome = true) : ∃ i z te, TT e = some te ∧ P.info? e = some i ∧ i.size = sizeT TT e ∧ P.cellsOf e = sizeT TT e ∧ i.zero = some z ∧ te.size = sizeT TT e := by
  obtain ⟨te, hte⟩ := Option.isSome_iff_exists.1 h
  obtain ⟨i, z, i1, i2, i3, i4, _⟩ := (hP e te hte).ex
  have hs : sizeT TT e = te.size := by simp [sizeT, hte]
  exact ⟨i, z, te, hte, i1, by rw [hs, i2], by simp [Program.cellsOf, i1, hs, i2], i4, hs.symm⟩

/-- A variable lies where it lies. -/
theorem liesAt_one {t : Nat} (hc : P.cellsOf t ≠ 0) : liesAt P P.depth t 1 0 t 1 = true := by
  have hd : P.depth = (2 * (P.types.size + Made.depth) + 1) + 1 := rfl
  rw [hd]
  simp only [liesAt, Bool.or_eq_true]
  left
  rw [hd]
  simp [rowAt, hc, sameLayout]

theorem unsf_op (hP : TabOK P TT) (h : HRel X keep w0 ι C w) {src dst : Nat} {ts td : TD} (hs : TT src = some ts) (hd : TT dst = some td) {y r : AV} {vy : Value} (hy : RelV w (okb X w ι C) ι y vy)
    (hu : unsf TT C ts.k td.k y some = some r) : (convert src dst vy).run P w = .ok vy w ∧ RelV w (okb X w ι C) ι r vy := by
  have us := (hP src ts hs).und
  have ud := (hP dst td hd).und
  unfold unsf at hu
  split at hu
  · rename_i e b o h1 h2
    rw [h1] at us
    rw [h2] at ud
    split at hu
    · rename_i be cs hC
      split at hu
      · rename_i hc
        simp only [Bool.and_eq_true] at hc
        injection hu with hu
        subst hu
        obtain ⟨i, z, te, _, i1, i2, _, _, _⟩ := sizeT_cells hP hc.1.1
        obtain ⟨g, cur, g1, g2, g3⟩ := box_cells h hC
        have hy0 := hy
        simp only [RelV] at hy
        obtain ⟨g', q1, q2⟩ := hy
        rw [q1] at g1
        injection g1 with g1
        injection g1 with g1
        injection g1 with g1
        injection g1 with g1 _
        subst g1
        subst q2
        refine ⟨Lib.run_to_unsafe (e := be) (cells := cs.length) w ⟨g', o, none⟩ us ud i1 ?_ ?_ (Nat.le_of_ble_eq_true hc.2), hy0⟩
        · rw [i2]
          have := Nat.le_of_ble_eq_true hc.1.2
          omega
        · have := RelL_length g3
          simp [World.shape?, g2, this]
      · cases hu
    · cases hu
  · rename_i e b h1 h2
    rw [h1] at us
    rw [h2] at ud
    split at hu
    · rename_i be cs hC
      split at hu
      · rename_i hc
        simp only [Bool.and_eq_true] at hc
        injection hu with hu
        subst hu
        obtain ⟨i, z, te, _, i1, i2, i3, _, _⟩ := sizeT_cells hP hc.1.1.1
        obtain ⟨g, cur, g1, g2, g3⟩ := box_cells h hC
        have hbe := Nat.eq_of_beq_eq_true hc.1.1.2
        subst hbe
        have hlen := Nat.eq_of_beq_eq_true hc.2
        have hpos : 0 < sizeT TT be := Nat.le_of_ble_eq_true hc.1.2
        have hy0 := hy
        simp only [RelV] at hy
        obtain ⟨g', q1, q2⟩ := hy
        rw [q1] at g1
        injection g1 with g1
        injection g1 with g1
        injection g1 with g1
        injection g1 with g1 _
        subst g1
        subst q2
        refine ⟨Lib.run_from_unsafe (e := be) (cells := cs.length) w ⟨g', 0, none⟩ us ud i1 ?_ ?_, hy0⟩
        · have := RelL_length g3
          simp [World.shape?, g2, this]
        · rw [i3, hlen, Nat.div_self hpos]
          exact liesAt_one (by rw [i3]; omega)
      · cases hu
    · cases hu
  · cases hu

theorem sdata_op (h : HRel X keep w0 ι C w) {x r : AV} {vx : Value} (hx : RelV w (okb X w ι C) ι x vx) (hu : sdata C x some = some r) (ts : Array TypeId) (ty : TypeId) :
    ∃ v, (Builtin.unsafeSliceData_ ts ty #[vx]).run P w = .ok v w ∧ RelV w (okb X w ι C) ι r v := by
  unfold sdata at hu
  split at hu
  · injection hu with hu
    subst hu
    simp only [RelV] at hx
    subst hx
    exact ⟨.pointer none, Lib.run_unsafeSliceData_nil w ts ty 0 0, by simp only [RelV]⟩
  · rename_i b
    split at hu
    · rename_i t e xs rw hC
      split at hu
      · rename_i hp
        injection hu with hu
        subst hu
        obtain ⟨A, c, a1, a2, a3⟩ := row_cells h hC
        obtain ⟨g, o, cs, b1, _⟩ := a3 hp
        have ho := row_zero h hC a1 b1
        subst ho
        simp only [RelV] at hx
        obtain ⟨x1, _⟩ := hx
        rw [a1] at x1
        injection x1 with x1
        subst x1
        subst b1
        refine ⟨.pointer (some ⟨g, 0, none⟩), Lib.run_unsafeSliceData_row w ts ty _ _ _ (by omega), ?_⟩
        simp only [RelV]
        exact ⟨g, _, _, a1, hp, by simp⟩
      · cases hu
    · cases hu
  · cases hu

theorem run_loadBytesI : ∀ (l : List Int) (a : Addr) (acc : ByteArray), (∀ j x, l[j]? = some x → w.cell? (a.add j) = some (.int .u8 x)) →
    (loadBytes a acc l.length).run P w = .ok ⟨acc.data ++ (l.map fun n : Int => UInt8.ofNat n.toNat).toArray⟩ w
  | [], a, acc, _ => by simp [loadBytes]
  | x :: l, a, acc, h => by
    have h0 : w.cell? a = some (.int .u8 x) := by
      have := h 0 x rfl
      simpa [Addr.add] using this
    have ih := run_loadBytesI l (a.add 1) (acc.push (UInt8.ofNat x.toNat)) (fun j y hy => by
      have := h (j + 1) y (by simpa using hy)
      have e : (a.add 1).add j = a.add (j + 1) := by
        unfold Addr.add
        by_cases hj : j = 0
        · subst hj; simp
        · simp [hj]; omega
      rw [e]; exact this)
    have hx : x.toNat.toUInt8 = UInt8.ofNat x.toNat := rfl
    simp only [List.length_cons, loadBytes, Sem.run_bind, run_load, h0, Result.andThen, hx]
    rw [ih]
    congr 1
    apply ByteArray.ext
    simp [ByteArray.push]

theorem freeze_heap (w : World) (g n b : Nat) (hb : b ≠ g) : (w.freeze ⟨g, 0, none⟩ n).heap[b]? = w.heap[b]? := by
  unfold World.freeze
  split
  · rfl
  · simp only [Array.getElem?_modify]
    rw [if_neg (by omega)]

theorem freeze_cell (w : World) (a p : Addr) (n : Nat) : (w.freeze a n).cell? p = w.cell? p := by
  unfold World.freeze
  split
  · rfl
  · unfold World.cell?
    simp only [Array.getElem?_modify]
    by_cases hb : a.block = p.block
    · simp only [if_pos hb]
      cases w.heap[p.block]? with
      | none => rfl
      | some o => cases o <;> rfl
    · simp only [if_neg hb]

theorem freeze_size (w : World) (a : Addr) (n : Nat) : (w.freeze a n).heap.size = w.heap.size ∧ (w.freeze a n).os = w.os ∧ (w.freeze a n).tape = w.tape ∧ (w.freeze a n).output = w.output := by
  unfold World.freeze
  split
  · exact ⟨rfl, rfl, rfl, rfl⟩
  · exact ⟨by simp, rfl, rfl, rfl⟩

/-- Rows that are read as data alone from here on, their cells being frozen in the world. -/
theorem HRel.freezeW (h : HRel X keep w0 ι C w) {k : Nat} {t : Ty} {e : Nat} {xs : List t.den} (hk : C k = .row t e xs true) {g : Nat} {n c : Nat} (hι : ι k = some (.slice (some ⟨g, 0, none⟩) n c)) (m : Nat) :
    HRel X keep w0 ι (setC C k (.row t e xs false)) (w.freeze ⟨g, 0, none⟩ m) ∧ Ext X ι C w ι (setC C k (.row t e xs false)) (w.freeze ⟨g, 0, none⟩ m) := by
  have hnone : bk ι (setC C k (.row t e xs false)) k = none := by
    unfold bk; rw [setC_self]
  have hbkk : bk ι C k = some g := by unfold bk; rw [hk, hι]; rfl
  obtain ⟨s1, s2, s3, s4⟩ := freeze_size w ⟨g, 0, none⟩ m
  refine h.step (fun j => j = k) s2 s3 s4 (by rw [s1]; exact Nat.le_refl _) (fun j hj => setC_ne hj) (fun _ _ e => e) (fun _ _ => rfl) ?_ ?_ ?_ ?_
  · rintro j b rfl hb
    rw [hnone] at hb; cases hb
  · exact fun j j' b h1 h2 _ _ => h1.trans h2.symm
  · intro b _ hb
    exact freeze_heap w g m b fun q => hb k rfl (by rw [hbkk, q])
  · rintro hext j rfl
    rw [setC_self]
    have hB := h.bl j
    rw [hk] at hB
    obtain ⟨v, cs, h1, h2, h3⟩ := hB
    refine ⟨v, h1, ?_, ?_⟩
    · rcases h2.2 with ⟨h4, h5⟩ | ⟨g, cap, cur, hv, _⟩
      · rw [h4]; trivial
      · rw [hv]; exact ⟨rfl, rfl⟩
    have h3' := RzL_mono (fun x us hx => hext.data hx) h3
    rcases h2.2 with ⟨h4, h5⟩ | ⟨g2, cap, cur, hv, _, h6, h7, h8, h9, h10⟩
    · exact ⟨none, 0, by rw [h4, h5], by omega, fun hp => by omega⟩
    · refine ⟨some ⟨g2, 0, none⟩, cap, by rw [hv], h7, fun hp => ⟨g2, 0, cs, rfl, ⟨?_, ?_, h.ox g2 ⟨j, by unfold bk; rw [hk, h1, hv]; rfl⟩⟩, h3', fun i u hu => ?_⟩⟩
      · rw [s1]
        exact (Array.getElem?_eq_some_iff.1 h6).1
      · rintro ⟨k', hk'⟩
        have hkk : k' ≠ j := by rintro rfl; rw [hnone] at hk'; cases hk'
        rw [bk_congr (setC_ne hkk) rfl] at hk'
        exact hkk (h.inj k' j g2 hk' (by unfold bk; rw [hk, h1, hv]; rfl))
      · have hcl := h2.cells (g := g2) (by rw [hv]; rfl) i u hu
        rw [Nat.zero_add, freeze_cell]
        rwa [show (⟨g2, 0, none⟩ : Addr).add i = ⟨g2, i, none⟩ from by unfold Addr.add; split <;> simp_all] at hcl

theorem ustr_op (hP : TabOK P TT) (h : HRel X keep w0 ι C w) {tt nb : Nat} {x y : AV} {vx vy : Value} (hx : RelV w (okb X w ι C) ι x vx) (hy : RelV w (okb X w ι C) ι y vy) {e : Eff}
    (hu : ustr TT tt C x y some = some e) (it ty : TypeId) : ∃ v w', (Builtin.unsafeString_ #[tt, it] ty #[vx, vy]).run P w = .ok v w' ∧ Out X keep w0 ι C w nb e v w' := by
  unfold ustr at hu
  split at hu
  · rename_i e1 b n hk
    obtain ⟨_, _, _, hut⟩ := kindOf_und hP hk (by intro q; cases q)
    have hut : P.underlying tt = some (.pointer e1) := hut
    split at hu
    · rename_i e' xs hC
      split at hu
      · rename_i hc
        simp only [Bool.and_eq_true] at hc
        have he := Nat.eq_of_beq_eq_true hc.1.2
        subst he
        have h1 := Nat.eq_of_beq_eq_true hc.2
        obtain ⟨i, z, te, _, i1, i2, i3, _, _⟩ := sizeT_cells hP hc.1.1
        rw [h1] at i3
        split at hu
        · rename_i hn
          subst hn
          split at hu
          · rename_i hl
            injection hu with hu
            subst hu
            rw [rel_int] at hy
            subst hy
            simp only [RelV] at hx
            obtain ⟨g, n, c, x1, x2, x3⟩ := hx
            rw [show 0 * 1 + 0 = 0 from rfl] at x3
            subst x3
            have hB := h.bl b
            rw [hC] at hB
            obtain ⟨v0, cs, b1, b2, b3⟩ := hB
            rw [x1] at b1
            injection b1 with b1
            subst b1
            rcases b2.2 with ⟨q, _⟩ | ⟨g2, cap, cur, q1, q2, q3, q4, q5, q6, q7⟩
            · cases q
            · injection q1 with q1 q8 q9
              injection q1 with q1
              injection q1 with q1 _
              subst q1; subst q8; subst q9
              have hcell : ∀ j (x : Int), xs[j]? = some x → w.cell? ((⟨g, 0, none⟩ : Addr).add j) = some (.int .u8 x) := by
                intro j x hj
                refine b2.cells (g := g) rfl j _ ?_
                rw [RzL_bytes b3]
                simp [hj]
              have hlb := run_loadBytesI (P := P) (w := w) xs ⟨g, 0, none⟩ .empty hcell
              have hsh : w.shape? g = some (e', cur.size) := by simp [World.shape?, q3]
              have hle : xs.length ≤ cur.size := by rw [q6]; show xs.length ≤ c * 1; omega
              have hlies := Lib.liesAt_bytes (P := P) i3 (cur.size / P.cellsOf e') xs.length (by rw [i3]; simpa using hle)
              have hL : LIM = 4294967296 := rfl
              rw [hL] at hl
              have h63' : ¬ (9223372036854775807 : Int) < (xs.length : Int) := by omega
              have hmax : IntKind.i64.max = 9223372036854775807 := rfl
              have hneg : ¬ (xs.length : Int) < 0 := by omega
              refine ⟨.string ⟨(xs.map fun n : Int => UInt8.ofNat n.toNat).toArray⟩, w.freeze ⟨g, 0, none⟩ xs.length, ?_, ?_⟩
              · have hdef : Builtin.unsafeString_ #[tt, it] ty #[.pointer (some ⟨g, 0, none⟩), .int .i64 xs.length] =
                    (do
                      let n ← asInt (.int .i64 xs.length)
                      if n < 0 then runtimePanic (.error "unsafe.String: len out of range")
                      if n > IntKind.i64.max then unsupported (.unsafePointer "String: a length above the largest int")
                      if n = 0 then pure (.string .empty)
                      else if ← variablesAt ⟨g, 0, none⟩ (← elemOf tt) n.toNat then do
                        let s ← loadBytes ⟨g, 0, none⟩ .empty n.toNat
                        freeze ⟨g, 0, none⟩ n.toNat
                        pure (.string s)
                      else unsupported (.unsafePointer "String: not so many bytes at ptr")) := rfl
                rw [hdef]
                simp [asInt, asIntOf, hmax, h63', hneg, variablesAt, hsh, elemOf, run_underlying hut, hlies, hlb]
                intro q
                rw [q] at x2
                simp at x2
              · have := h.freezeW hC x1 xs.length
                exact ⟨ι, this.1, this.2, rel_str.2 rfl, fun _ _ => rfl⟩
          · cases hu
        · cases hu
      · cases hu
    · cases hu
  · rename_i e1 n hk
    split at hu
    · rename_i hn
      subst hn
      rw [rel_int] at hy
      subst hy
      simp only [RelV] at hx
      subst hx
      exact ⟨_, w, Lib.run_unsafeString_none w tt it ty none, Out.of_some h hu (rel_str.2 rfl)⟩
    · cases hu
  · cases hu

/-- What the zero value of a type of bytes is. -/
theorem zero_u8 (hP : TabOK P TT) {e : Nat} {te : TD} (he : TT e = some te) (hk : te.k = .int .u8) (hs : te.size = 1) (hz : zeroU8 te.zero = true) : ∃ i, P.info? e = some i ∧ i.zero = some (.int .u8 0) ∧ i.size = 1 ∧ i.bytes = te.bytes := by
  obtain ⟨i, z, i1, i2, i3, i4, i5, i6, _⟩ := (hP e te he).ex
  have ha := (hP e te he).za i z i1 i4
  refine ⟨i, i1, ?_, by rw [i2, hs], i3⟩
  rw [i4]
  unfold zeroU8 at hz
  split at hz
  · rename_i n hte
    have hn : n = 0 := by simpa using hz
    subst hn
    have h5 := i5 default (fun _ => True) (fun _ => none)
    rw [hte] at h5
    obtain ⟨v, vr, e1, e2, e3⟩ := RelL_cons.1 h5
    rw [RelL_nil.1 e3] at e1
    rw [rel_int] at e2
    subst e2
    rw [hk] at ha
    cases z <;> first | (simp [Value.cells] at e1; done) | (simp [isAgV, TK.agg] at ha; done) | (simp only [Value.cells] at e1; injection e1 with e1; rw [e1]) | skip
    all_goals (first | (simp [Value.cells] at e1; rw [e1]; done) | (simp [Value.cells] at e1; simp [e1]; done) | skip)
  · cases hz

theorem run_append_string0 (t u ty e : TypeId) (i : TypeInfo) (ht : P.underlying t = some (.slice e)) (hu : P.underlying u = some .string) (hi : P.info? e = some i) (hz : i.zero = some (.int .u8 0))
    (hsize : i.size = 1) (hby : i.bytes = 1) (v : Value) (n : Nat) (xs : List Value) (hown : w.ownsRow 0 e 1 v n xs) (s : List UInt8) (hl : n + s.length ≤ LIM) :
    ∃ v' w', (Builtin.append_ #[t, u] ty #[v, .string ⟨s.toArray⟩]).run P w = .ok v' w' ∧ w'.ownsRow 0 e 1 v' (n + s.length) (xs ++ s.map fun b => Value.int .u8 b.toNat) ∧ w.grownBy w' v.ownBlock ∧ (v'.ownBlock = v.ownBlock ∨ v'.ownBlock = some w.heap.size) := by
  have hL : LIM = 4294967296 := rfl
  rw [hL] at hl
  have hsz : (⟨s.toArray⟩ : ByteArray).size = s.length := by simp [ByteArray.size]
  have hm : n + (⟨s.toArray⟩ : ByteArray).size ≤ maxLen := by rw [hsz]; simp only [maxLen]; omega
  have hb : n + (⟨s.toArray⟩ : ByteArray).size ≤ 140737488355328 := by rw [hsz]; omega
  obtain ⟨v', w', r1, r2, r3, _⟩ := Lib.run_append_own_string (P := P) w 0 t u ty e i ht hu hi hz hsize hby v n xs hown ⟨s.toArray⟩ hm hb (Nat.zero_le _)
  refine ⟨v', w', r1, by rw [hsz] at r2; exact r2, r3, ?_⟩
  rcases hown.2 with ⟨rfl, rfl⟩ | ⟨g, cap, cur, rfl, hbg, hg, hnc, hcm, hcs, htake⟩
  · have hx : xs = [] := List.eq_nil_of_length_eq_zero (by simpa using hown.1)
    subst hx
    by_cases h0 : s.length = 0
    · have hs : s = [] := List.eq_nil_of_length_eq_zero h0
      subst hs
      have hf := Lib.run_firstCells_string (P := P) w 1 ⟨[].toArray⟩
      have : (Builtin.append_ #[t, u] ty #[.slice none 0 0, .string ⟨[].toArray⟩]).run P w = .ok (.slice none 0 0) w := by
        have hf : (Builtin.firstCells 1 0 (.string ⟨#[]⟩)).run P w = .ok #[] w := by simp [Builtin.firstCells]
        simp [Builtin.append_, run_underlying ht, run_underlying hu, sizeOf, typeInfo, hi, hsize, Builtin.lenOf, ByteArray.size, hf]
      rw [this] at r1
      injection r1 with r1 _
      exact .inl (by rw [← r1])
    · have hr := run_append_nil_string (P := P) w t u ty e i (.int .u8 0) ht hu hi hz ⟨s.toArray⟩ (by rw [hsz]; omega) (by rw [hsz]; omega) (by rw [hby, hsz]; omega)
      rw [hr] at r1
      injection r1 with r1 _
      exact .inr (by rw [← r1]; rfl)
  · by_cases hroom : n + (⟨s.toArray⟩ : ByteArray).size ≤ cap
    · have hcs' : cur.size = cap := by simpa using hcs
      have hr := Lib.run_append_room_string (P := P) w t u ty e i ht hu hi hsize g n cap cur hg ⟨s.toArray⟩ hroom (by omega)
      rw [hr] at r1
      injection r1 with r1 _
      exact .inl (by rw [← r1]; rfl)
    · have holds : ∀ j u, xs[j]? = some u → w.cell? ((⟨g, 0, none⟩ : Addr).add j) = some u := hown.cells (g := g) rfl
      have hr := Lib.run_append_grow_string (P := P) w t u ty e i (.int .u8 0) ht hu hi hz ⟨g, 0, none⟩ n cap xs (by rw [hsize]; exact hown.1) holds ⟨s.toArray⟩ (by omega) (by rw [hsz]; omega) (by rw [hby]; exact growslice_fits (by omega) (by omega))
      rw [hr] at r1
      injection r1 with r1 _
      exact .inr (by rw [← r1]; rfl)

theorem RzL_u8 {ok : Nat → Prop} : ∀ s : List UInt8, RzL (Rz w ok (.int .u8)) (s.map fun b => (b.toNat : Int)) (s.map fun b => Value.int .u8 b.toNat)
  | [] => rfl
  | _ :: r => ⟨[_], _, rfl, rfl, RzL_u8 r⟩

theorem appStr_op (hP : TabOK P TT) (h : HRel X keep w0 ι C w) {nb : Nat} {tt tt' e : Nat} {td te : TD} (ht : TT tt = some td) (hk : td.k = .sl e) (he : TT e = some te) (rt : TypeId) {x y : AV} {vx vy : Value}
    (hx : RelV w (okb X w ι C) ι x vx) (hy : RelV w (okb X w ι C) ι y vy) {ef : Eff} (ha : appStr TT tt' e te C nb x y some = some ef) (hn : ∀ k, nb ≤ k → k < nb + ef.new.length → ι k = none) :
    ∃ v w', (Builtin.append_ #[tt, tt'] rt #[vx, vy]).run P w = .ok v w' ∧ Out X keep w0 ι C w nb ef v w' := by
  have hu := (hP tt td ht).und
  rw [hk] at hu
  have hu : P.underlying tt = some (.slice e) := hu
  unfold appStr at ha
  split at ha
  · rename_i s hk' hke
    obtain ⟨_, _, _, hut⟩ := kindOf_und hP hk' (by intro q; cases q)
    have hut : P.underlying tt' = some .string := hut
    split at ha
    · rename_i hc
      simp only [Bool.and_eq_true] at hc
      obtain ⟨i, i1, i2, i3, i4⟩ := zero_u8 hP he hke (Nat.eq_of_beq_eq_true hc.1.1) hc.2
      rw [Nat.eq_of_beq_eq_true hc.1.2] at i4
      rw [rel_str] at hy
      subst hy
      split at ha
      · simp only [RelV] at hx
        subst hx
        split at ha
        · rename_i hl
          injection ha with ha
          subst ha
          have hnb := hn nb (Nat.le_refl _) (by simp)
          obtain ⟨v', w', r1, r2, r3, r4⟩ := run_append_string0 (w := w) tt tt' rt e i hu hut i1 i2 i3 i4 (.slice none 0 0) 0 [] (World.ownsRow_nil w 0 e 1) s (by omega)
          refine ⟨v', w', r1, Out.row h hnb (t := .int .u8) r3 ?_ (fun g q => ?_) (RzL_u8 s)⟩
          · rw [List.length_map]
            rw [Nat.zero_add, List.nil_append] at r2
            exact r2
          · rcases r4 with r4 | r4
            · rw [r4] at q; cases q
            · rw [r4] at q; injection q with q; omega
        · cases ha
      · rename_i b
        split at ha
        · rename_i e' xs hC
          split at ha
          · rename_i he'
            have he' := Nat.eq_of_beq_eq_true he'
            subst he'
            split at ha
            · rename_i hl
              injection ha with ha
              subst ha
              have hnb := hn nb (Nat.le_refl _) (by simp)
              have hB := h.bl b
              rw [hC] at hB
              obtain ⟨v0, cs0, b1, b2, b3⟩ := hB
              simp only [RelV] at hx
              rw [hx.1] at b1
              injection b1 with b1
              subst b1
              obtain ⟨v', w', r1, r3, r4, r5⟩ := run_append_string0 (w := w) tt tt' rt e' i hu hut i1 i2 i3 i4 vx xs.length cs0 b2 s hl
              refine ⟨v', w', r1, ?_⟩
              have hbn : b ≠ nb := by rintro rfl; rw [hnb] at hx; cases hx.1
              have hbk : bk ι C b = vx.ownBlock := by unfold bk; rw [hC, hx.1]
              have hdead : ∀ ι', bk ι' (setC (setC C b .dead) nb (.row (.int .u8) e' (xs ++ s.map fun b => (b.toNat : Int)) true)) b = none := by
                intro ι'
                unfold bk; rw [setC_ne hbn, setC_self]
              have hnew : bk (setI ι nb v') (setC (setC C b .dead) nb (.row (.int .u8) e' (xs ++ s.map fun b => (b.toNat : Int)) true)) nb = v'.ownBlock := by
                unfold bk; rw [setC_self, setI_self]
              have := h.step (C' := setC (setC C b .dead) nb (.row (.int .u8) e' (xs ++ s.map fun b => (b.toNat : Int)) true)) (ι' := setI ι nb v') (w' := w') (fun k => k = b ∨ k = nb) r4.os r4.tape r4.output r4.size
                (fun k hk => by rw [setC_ne (fun q => hk (.inr q)), setC_ne (fun q => hk (.inl q))])
                (fun k u hk => by
                  by_cases q : k = nb
                  · subst q; rw [hnb] at hk; cases hk
                  · rw [setI_ne q]; exact hk) (fun k hk => setI_ne (fun q => hk (.inr q)))
                (fun k g hk q => by
                  rcases hk with rfl | rfl
                  · rw [hdead] at q; cases q
                  · rw [hnew] at q
                    rcases r5 with r5 | r5
                    · exact .inr ⟨b, .inl rfl, by rw [hbk, ← r5, q]⟩
                    · rw [r5] at q; injection q with q; exact .inl (by omega))
                (fun k k' g hk hk' q q' => by
                  rcases hk with rfl | rfl
                  · rw [hdead] at q; cases q
                  · rcases hk' with rfl | rfl
                    · rw [hdead] at q'; cases q'
                    · rfl)
                (fun g hg hk => r4.block g hg (fun q => hk b (.inl rfl) (by rw [hbk, ← q])))
                (fun hext k hk => by
                  by_cases q : k = nb
                  · subst q
                    rw [setC_self]
                    refine ⟨v', _, setI_self _ _ _, ?_, RzL_append (RzL_mono (fun x us hx => hext.data hx) b3) (RzL_u8 s)⟩
                    rw [List.length_append, List.length_map]
                    exact r3
                  · have q2 : k = b := hk.resolve_right q
                    subst q2
                    rw [setC_ne q, setC_self]
                    trivial)
              refine ⟨setI ι nb v', this.1, this.2, ?_, fun k hk => setI_ne (by rintro rfl; exact hk ⟨Nat.le_refl _, by simp⟩)⟩
              simp only [RelV]
              refine ⟨setI_self _ _ _, ?_⟩
              rcases r3.2 with ⟨h1, h2⟩ | ⟨g, cap, cur, h1, _⟩
              · exact ⟨none, 0, 0, by rw [h1]⟩
              · exact ⟨_, _, _, h1⟩
            · cases ha
          · cases ha
        · cases ha
      · cases ha
    · cases ha
  · cases ha

/-- The first elements of a row of the call's own, as a row of its own. -/
theorem HRel.cut (h : HRel X keep w0 ι C w) {i nb sz len : Nat} {u : Value} (hv : RelV w (okb X w ι C) ι (.rs i sz 0 len) u) {ty : Ty} {e : Nat} {xs : List ty.den} (hC : C i = .row ty e xs true) (hnone : ι nb = none) :
    HRel X keep w0 (setI ι nb u) (setC (setC C i .dead) nb (.row ty e (xs.take len) true)) w ∧ Ext X ι C w (setI ι nb u) (setC (setC C i .dead) nb (.row ty e (xs.take len) true)) w ∧
      RelV w (okb X w (setI ι nb u) (setC (setC C i .dead) nb (.row ty e (xs.take len) true))) (setI ι nb u) (.rf nb) u := by
  simp only [RelV] at hv
  obtain ⟨A, nn, c, A', c', v1, v2, v3, v4, v5, v6⟩ := hv
  obtain ⟨rfl, rfl⟩ := v6 trivial
  have hB := h.bl i
  rw [hC] at hB
  obtain ⟨v, cs, b1, b2, b3⟩ := hB
  rw [v1] at b1
  injection b1 with b1
  subst b1
  have hne : i ≠ nb := by rintro rfl; rw [hnone] at v1; cases v1
  have hlen : nn = xs.length := by
    rcases b2.2 with ⟨q, q'⟩ | ⟨g, cap, cur, q, _⟩
    · injection q with _ q1 _
      omega
    · injection q
  have hxl : (xs.take len).length = len := by rw [List.length_take]; omega
  have hbk : ∀ b, bk (setI ι nb u) (setC (setC C i .dead) nb (.row ty e (xs.take len) true)) nb = some b → bk ι C i = some b := by
    intro b hb
    unfold bk at hb ⊢
    rw [setC_self, setI_self, v3] at hb
    rw [hC, v1]
    cases A' with
    | none => exact hb
    | some A => exact hb
  have hdead : bk (setI ι nb u) (setC (setC C i .dead) nb (.row ty e (xs.take len) true)) i = none := by
    unfold bk
    rw [setC_ne hne, setC_self]
  obtain ⟨h1, h2⟩ := h.step (C' := setC (setC C i .dead) nb (.row ty e (xs.take len) true)) (ι' := setI ι nb u) (w' := w) (fun k => k = i ∨ k = nb) rfl rfl rfl (Nat.le_refl _)
    (fun k hk => by
      have k1 : k ≠ i := fun q => hk (.inl q)
      have k2 : k ≠ nb := fun q => hk (.inr q)
      rw [setC_ne k2, setC_ne k1])
    (fun k v hk => by
      have hne : k ≠ nb := by rintro rfl; rw [hnone] at hk; cases hk
      rw [setI_ne hne]; exact hk) (fun k hk => setI_ne (fun q => hk (.inr q)))
    (by
      rintro k b (rfl | rfl) hb
      · rw [hdead] at hb; cases hb
      · exact .inr ⟨i, .inl rfl, hbk b hb⟩)
    (by
      rintro k k' b (rfl | rfl) (rfl | rfl) e1 e2
      · rfl
      · rw [hdead] at e1; cases e1
      · rw [hdead] at e2; cases e2
      · rfl) (fun _ _ _ => rfl)
    (by
      rintro hext k (rfl | rfl)
      · rw [setC_ne hne, setC_self]
        trivial
      · rw [setC_self]
        refine ⟨u, cs.take (len * ty.size), setI_self .., ⟨?_, ?_⟩, ?_⟩
        · rw [List.length_take, b2.1, hxl]
          exact Nat.min_eq_left (Nat.mul_le_mul_right _ (by omega))
        · rw [hxl, v3]
          rcases b2.2 with ⟨q, q'⟩ | ⟨g, cap, cur, q, q1, q2, q3, q4, q5, q6⟩
          · left
            injection q with p1 p2 p3
            exact ⟨by rw [p1, p3, show len = 0 by omega], by omega⟩
          · right
            injection q with p1 p2 p3
            refine ⟨g, cap, cur, by rw [p1, p3], q1, q2, by omega, q4, q5, ?_⟩
            rw [← q6, List.take_take, Nat.min_eq_left (Nat.mul_le_mul_right _ (by omega))]
        · exact RzL_take (fun x us hx => Rz_length _ _ _ hx) len (RzL_mono (Rz_mono (fun _ _ _ _ e => e) hext.ok _) b3))
  refine ⟨h1, h2, ?_⟩
  simp only [RelV]
  rw [v3]
  exact ⟨by rw [setI_self], _, _, _, rfl⟩

theorem cut_store (hP : TabOK P TT) (h : HRel X keep w0 ι C w) {tt : Nat} {b o' nb : Nat} {x : AV} {va vx : Value} (ha : RelV w (okb X w ι C) ι (.pt b o') va) (hx : RelV w (okb X w ι C) ι x vx) {cs : List AV} {be : Nat} (hb : C b = .box be cs)
    {i : Nat} {r : Blk} (hr : cutRow C x = some (i, r)) (hn : ι nb = none) (hc : ((TT tt).isSome && Nat.beq 1 (sizeT TT tt) && Nat.ble (o' + 1) cs.length) = true) :
    ∃ w', (Instr.storeAt tt va vx).run P w = .ok () w' ∧ Out X keep w0 ι C w nb ⟨.un, [(i, .dead), (b, .box be (splice cs o' [.rf nb]))], [r]⟩ undef w' := by
  unfold cutRow at hr
  split at hr
  · rename_i i' sz off len
    split at hr
    · rename_i t e xs hC
      split at hr
      · rename_i ho
        simp only [Bool.and_eq_true] at ho
        have ho1 := Nat.eq_of_beq_eq_true ho.1
        subst ho1
        injection hr with hr
        injection hr with hr1 hr2
        subst hr1; subst hr2
        obtain ⟨h1, e1, v1⟩ := h.cut hx hC hn
        have hbi : b ≠ i' := by rintro rfl; rw [hC] at hb; cases hb
        have hbn : b ≠ nb := by
          rintro rfl
          simp only [RelV] at ha
          obtain ⟨g, q, _⟩ := ha
          rw [hn] at q; cases q
        have hb1 : setC (setC C i' .dead) nb (.row t e (xs.take len) true) b = .box be cs := by rw [setC_ne hbn, setC_ne hbi, hb]
        obtain ⟨w', r1, ι', o1, o2, o3, o4⟩ := store_box (nb := nb + 1) hP h1 (e1.val ha) v1 hb1 (by
          simp only [Bool.and_eq_true] at hc ⊢
          exact ⟨⟨⟨hc.1.1, rfl⟩, hc.1.2⟩, hc.2⟩)
        have he : effC C nb ⟨.un, [(i', .dead), (b, .box be (splice cs o' [.rf nb]))], [.row t e (xs.take len) true]⟩ = effC (setC (setC C i' .dead) nb (.row t e (xs.take len) true)) (nb + 1) ⟨.un, [(b, .box be (splice cs o' [.rf nb]))], []⟩ := by
          show setC (setC (setC C i' .dead) b _) nb _ = setC (setC (setC C i' .dead) nb _) b _
          funext k
          by_cases k1 : k = b
          · subst k1
            rw [setC_ne hbn, setC_self, setC_self]
          · by_cases k2 : k = nb
            · subst k2
              rw [setC_self, setC_ne k1, setC_self]
            · rw [setC_ne k2, setC_ne k1, setC_ne k1, setC_ne k2]
        refine ⟨w', r1, ι', ?_, ?_, ?_, fun k hk => ?_⟩
        · rw [he]; exact o1
        · rw [he]; exact e1.trans o2
        · simp only [RelV]
        · have hk' : k ≠ nb := by rintro rfl; exact hk ⟨Nat.le_refl _, by simp⟩
          rw [o4 k (by simp), setI_ne hk']
      · cases hr
    · cases hr
  · cases hr
end
end Go.Proofs.Rf
/- Rf, part jd: elements copied into a row of the call's own, from whatever row. -/
namespace Go.Proofs.Rf
open Go Go.RowKit
section
variable {X keep : Nat → Prop} {w0 w : World} {ι : Nat → Option Value} {C : Nat → Blk} {P : Program} {TT : Tab}

theorem run_copy_rowN (w : World) (dT sT ty elem : TypeId) (i : TypeInfo) (g o dLen dCap : Nat) (a : Addr) (sLen sCap : Nat) (cur : Array Value) (t : TypeId) (cs : List Value)
    (hu : P.underlying dT = some (.slice elem)) (hi : P.info? elem = some i)
    (hg : w.heap[g]? = some (.cells cur t (0, 0))) (hn : cs.length = Nat.min sLen dLen * i.size)
    (hsrc : ∀ j v, cs[j]? = some v → w.cell? (a.add j) = some v) (hfit : o + cs.length ≤ cur.size) (h1 : ∀ v ∈ cs, v.oneCell' = true) :
    (Builtin.copy_ #[dT, sT] ty #[.slice (some ⟨g, o, none⟩) dLen dCap, .slice (some a) sLen sCap]).run P w =
      .ok (goInt (Nat.min sLen dLen)) (w.setRow g (cur.toList.take o ++ cs ++ cur.toList.drop (o + cs.length)).toArray) := by
  have hl := run_firstCells_some (P := P) w i.size (Nat.min sLen dLen) a sLen sCap cs hn hsrc
  have hst := run_storeCells_at P g o t cs 0 cur w hg (by simpa using hfit) h1
  rw [Nat.add_zero] at hst
  simp [Builtin.copy_, run_underlying hu, Builtin.lenOf, sizeOf, typeInfo, hi, hl, hst]

theorem run_copy_noneN (w : World) (dT sT ty elem : TypeId) (i : TypeInfo) (d a : Option Addr) (dLen dCap sLen sCap : Nat) (hu : P.underlying dT = some (.slice elem)) (hi : P.info? elem = some i) (hn : Nat.min sLen dLen = 0) :
    (Builtin.copy_ #[dT, sT] ty #[.slice d dLen dCap, .slice a sLen sCap]).run P w = .ok (goInt 0) w := by
  have hl : ∀ (x : Addr), (loadCells x 0).run P w = .ok #[] w := fun x => by simpa using run_loadCells_list (P := P) w x [] (by simp)
  cases d <;> cases a <;> simp [Builtin.copy_, run_underlying hu, Builtin.lenOf, Builtin.firstCells, sizeOf, typeInfo, hi, hn, storeCells, hl]

/-- A row that lies in the world. -/
def SrcOK (w : World) (ok : Nat → Prop) (t : Ty) (ys : List t.den) (v : Value) : Prop :=
  ∃ A c, v = .slice A ys.length c ∧ (0 < ys.length → ∃ g o cs, A = some ⟨g, o, none⟩ ∧ RzL (Rz w ok t) ys cs ∧ ∀ j u, cs[j]? = some u → w.cell? ⟨g, o + j, none⟩ = some u)

theorem srcOf_sound (h : HRel X keep w0 ι C w) {t : Ty} {y : AV} {vy : Value} (hy : RelV w (okb X w ι C) ι y vy) {ys : List t.den} (hs : srcOf C t y = some ys) : SrcOK w (okb X w ι C) t ys vy := by
  unfold srcOf at hs
  split at hs
  · split at hs
    · rename_i hq _
      obtain ⟨hq⟩ := hq
      subst hq
      injection hs with hs
      subst hs
      simp only [RelV] at hy
      obtain ⟨A, c, e1, e2, e3⟩ := hy
      injection e1 with e1 _
      exact ⟨A, c, e1, fun hp => by
        obtain ⟨g, o, cs, q1, _, q3, q4⟩ := e3 hp
        exact ⟨g, o, cs, q1, q3, q4⟩⟩
    · cases hs
  · injection hs with hs
    subst hs
    simp only [RelV] at hy
    exact ⟨none, 0, hy, fun hp => by simp at hp⟩
  · rename_i b
    split at hs
    · rename_i t' e xs rw hC
      split at hs
      · rename_i hq _
        obtain ⟨hq⟩ := hq
        subst hq
        injection hs with hs
        subst hs
        obtain ⟨A, c, a1, a2, a3⟩ := row_cells h hC
        simp only [RelV] at hy
        obtain ⟨y1, _⟩ := hy
        rw [a1] at y1
        injection y1 with y1
        exact ⟨A, c, y1.symm, a3⟩
      · cases hs
    · cases hs
  · rename_i b sz off len
    split at hs
    · rename_i t' e xs rw hC
      split at hs
      · rename_i hq _
        obtain ⟨hq⟩ := hq
        subst hq
        split at hs
        · rename_i hsz
          have hsz := Nat.eq_of_beq_eq_true hsz
          subst hsz
          injection hs with hs
          subst hs
          obtain ⟨A, c, a1, a2, a3⟩ := row_cells h hC
          simp only [RelV] at hy
          obtain ⟨A1, n, c1, A', c', h1, h2, h3, h4, h5, _⟩ := hy
          rw [a1] at h1
          injection h1 with h1
          injection h1 with z1 z2 z3
          subst z1; subst z2; subst z3
          have hlen : (List.take len (List.drop off (Ty.castL rfl xs))).length = len := by
            rw [Ty.castL_rfl, List.length_take, List.length_drop]; omega
          refine ⟨A', c', by rw [hlen]; exact h3, fun hp => ?_⟩
          rw [hlen] at hp
          obtain ⟨g, k1, k2⟩ := h5 hp
          obtain ⟨g2, o2, cs, q1, q3, q4⟩ := a3 (by omega)
          have ho := row_zero h hC a1 q1
          subst ho
          rw [k1] at q1
          injection q1 with q1
          injection q1 with q1 _ _
          subst q1
          refine ⟨g, off * t'.size, (cs.drop (off * t'.size)).take (len * t'.size), k2, RzL_take (Rz_length t') len (RzL_drop (Rz_length t') off q3), fun j u hu => ?_⟩
          rw [List.getElem?_take] at hu
          split at hu
          · rw [List.getElem?_drop] at hu
            have := q4 _ u hu
            rwa [Nat.zero_add] at this
          · cases hu
        · cases hs
      · cases hs
    · cases hs
  · cases hs

theorem dstOf_sound (h : HRel X keep w0 ι C w) {x : AV} {vx : Value} (hx : RelV w (okb X w ι C) ι x vx) {b off len : Nat} (hd : dstOf C x = some (b, off, len)) :
    ∃ (t : Ty) (e : Nat) (xs : List t.den), C b = .row t e xs true ∧ RelV w (okb X w ι C) ι (.rs b t.size off len) vx := by
  unfold dstOf at hd
  split at hd
  · split at hd
    · rename_i t e xs hC
      split at hd
      · rename_i hs
        have hs := Nat.eq_of_beq_eq_true hs
        injection hd with hd
        injection hd with d1 d2
        injection d2 with d2 d3
        subst d1; subst d2; subst d3
        exact ⟨t, e, xs, hC, hs ▸ hx⟩
      · cases hd
    · cases hd
  · split at hd
    · rename_i t e xs hC
      injection hd with hd
      injection hd with d1 d2
      injection d2 with d2 d3
      subst d1; subst d2; subst d3
      refine ⟨t, e, xs, hC, ?_⟩
      obtain ⟨A, c, a1, a2, a3⟩ := row_cells h hC
      simp only [RelV] at hx ⊢
      obtain ⟨y1, _⟩ := hx
      rw [a1] at y1
      injection y1 with y1
      refine ⟨A, xs.length, c, A, c, a1, by omega, y1.symm, a2, fun hp => ?_, fun _ => ⟨rfl, rfl⟩⟩
      obtain ⟨g, o, cs, q1, _⟩ := a3 hp
      have ho := row_zero h hC a1 q1
      subst ho
      exact ⟨g, q1, by rw [Nat.zero_mul]; exact q1⟩
    · cases hd
  · cases hd

/-- Elements are copied into a row of the call's own. -/
theorem copy_opN (hP : TabOK P TT) (h : HRel X keep w0 ι C w) {tt e b off len nb : Nat} {td te : TD} (htd : TT tt = some td) (hk : td.k = .sl e) (hte : TT e = some te) {t : Ty} (ht : t.size = te.size) {e' : Nat} {xs : List t.den} (hb : C b = .row t e' xs true)
    {vd vs : Value} {ys : List t.den} (hd : RelV w (okb X w ι C) ι (.rs b t.size off len) vd) (hs : SrcOK w (okb X w ι C) t ys vs) (st ty : Nat) :
    ∃ v w', (Builtin.copy_ #[tt, st] ty #[vd, vs]).run P w = .ok v w' ∧ Out X keep w0 ι C w nb ⟨.d (.int .i64) ((min ys.length len : Nat) : Int), [(b, .row t e' (xs.take off ++ ys.take len ++ xs.drop (off + min ys.length len)) true)], []⟩ v w' := by
  have hu : P.underlying tt = some (.slice e) := by
    have := (hP tt td htd).und
    rw [hk] at this
    exact this
  obtain ⟨i, z, i1, i2, _⟩ := (hP e te hte).ex
  rw [← ht] at i2
  obtain ⟨A2, c2, e1, e3⟩ := hs
  subst e1
  simp only [RelV] at hd
  obtain ⟨A1, n, c, A', c', h1, h2, h3, h4, h5⟩ := hd
  subst h3
  rcases Nat.eq_zero_or_pos (min ys.length len) with hm | hm
  · refine ⟨_, w, run_copy_noneN w tt st ty e i A' A2 len c' ys.length c2 hu i1 hm, ?_⟩
    have hx : xs.take off ++ ys.take len ++ xs.drop (off + min ys.length len) = xs := by
      have : ys.take len = [] := by
        rw [← List.length_eq_zero_iff, List.length_take, Nat.min_comm]
        exact hm
      rw [this, hm, List.append_nil, Nat.add_zero, List.take_append_drop]
    rw [hx, hm]
    have hC : setC C b (.row t e' xs true) = C := by
      funext j
      unfold setC
      split
      · rename_i hj; rw [hj, hb]
      · rfl
    refine ⟨ι, ?_, ?_, ?_, fun _ _ => rfl⟩
    · show HRel X keep w0 ι (setC C b (.row t e' xs true)) w
      rw [hC]; exact h
    · show Ext X ι C w ι (setC C b (.row t e' xs true)) w
      rw [hC]; exact Ext.refl _ _ _ _
    · simp only [RelV]
      rfl
  · obtain ⟨g, k1, k2⟩ := h5.1 (by omega)
    subst k2
    obtain ⟨g2, o2, cs2, q1, q3, q4⟩ := e3 (by omega)
    subst q1
    have hB := h.bl b
    rw [hb] at hB
    obtain ⟨v0, cs, r1, r2, r3⟩ := hB
    rw [r1] at h1
    injection h1 with h1
    subst h1
    subst k1
    rcases r2.2 with ⟨r4, _⟩ | ⟨g', cap, cur, hv, _, p2, p3, p4, p5, p6⟩
    · cases r4
    injection hv with z1 z2 z3
    injection z1 with z1
    injection z1 with z1 _ _
    subst z1; subst z2; subst z3
    have hl2 := RzL_length (Rz_length t) q3
    have hmin : min len ys.length = min ys.length len := Nat.min_comm _ _
    have t2 := RzL_take (Rz_length t) len q3
    have hcl : (cs2.take (len * t.size)).length = min ys.length len * t.size := by
      have := RzL_length (Rz_length t) t2
      rw [this, List.length_take, hmin]
    have hcl' : min ys.length len ≤ len := Nat.min_le_right _ _
    have hb1 : off * t.size + min ys.length len * t.size ≤ xs.length * t.size := by
      rw [← Nat.add_mul]
      exact Nat.mul_le_mul_right _ (by omega)
    have hb2 : xs.length * t.size ≤ c * t.size := Nat.mul_le_mul_right _ p3
    have hrun := run_copy_rowN (P := P) w tt st ty e i g (off * t.size) len c' ⟨g2, o2, none⟩ ys.length c2 cur e' (cs2.take (len * t.size)) hu i1 p2 (by rw [hcl, i2]) (fun j v hj => by
      rw [addr_add]
      refine q4 j v ?_
      rw [List.getElem?_take] at hj
      split at hj
      · exact hj
      · cases hj) (by rw [hcl, p5]; omega) (fun v hv => RzL_one q3 v (List.mem_of_mem_take hv))
    refine ⟨_, _, hrun, ι, ?_⟩
    have hbk : bk ι C b = some g := by unfold bk; rw [hb, r1]; rfl
    have hbk' : bk ι (setC C b (.row t e' (xs.take off ++ ys.take len ++ xs.drop (off + min ys.length len)) true)) b = some g := by unfold bk; rw [setC_self, r1]; rfl
    have hcs : cs.length = xs.length * t.size := r2.1
    have hcur : cur.toList = cs ++ cur.toList.drop (xs.length * t.size) := by
      conv => lhs; rw [← List.take_append_drop (xs.length * t.size) cur.toList]
      rw [p6]
    have hnew : cur.toList.take (off * t.size) ++ cs2.take (len * t.size) ++ cur.toList.drop (off * t.size + (cs2.take (len * t.size)).length) = (cs.take (off * t.size) ++ cs2.take (len * t.size) ++ cs.drop (off * t.size + min ys.length len * t.size)) ++ cur.toList.drop (xs.length * t.size) := by
      rw [hcl]
      generalize cur.toList.drop (xs.length * t.size) = D at hcur
      rw [hcur, List.take_append_of_le_length (by omega), List.drop_append_of_le_length (by omega)]
      simp only [List.append_assoc]
    have hlen : (xs.take off ++ ys.take len ++ xs.drop (off + min ys.length len)).length = xs.length := by
      simp only [List.length_append, List.length_take, List.length_drop]
      omega
    have := h.step (C' := setC C b (.row t e' (xs.take off ++ ys.take len ++ xs.drop (off + min ys.length len)) true)) (ι' := ι) (w' := w.setRow g (cur.toList.take (off * t.size) ++ cs2.take (len * t.size) ++ cur.toList.drop (off * t.size + (cs2.take (len * t.size)).length)).toArray) (fun j => j = b) rfl rfl rfl (by simp)
      (fun j hj => setC_ne hj) (fun _ _ q => q) (fun _ _ => rfl) (fun k b' hk q => by
        subst hk
        rw [hbk'] at q
        injection q with q
        subst q
        exact .inr ⟨_, rfl, hbk⟩) (fun k k' b' hk hk' _ _ => hk.trans hk'.symm) (fun b' hb' hk => setRow_other _ _ _ _ (by rintro rfl; exact hk b rfl hbk)) (fun hext k hk => by
        subst hk
        rw [setC_self]
        have t1 := RzL_take (Rz_length t) off r3
        have t3 := RzL_drop (Rz_length t) (off + min ys.length len) r3
        have hR := RzL_mono (fun x us hx => hext.data hx) (RzL_append (RzL_append t1 t2) t3)
        have hl3 := RzL_length (Rz_length t) hR
        rw [hlen] at hl3
        rw [Nat.add_mul] at hR hl3
        refine ⟨.slice (some ⟨g, 0, none⟩) xs.length c, cs.take (off * t.size) ++ cs2.take (len * t.size) ++ cs.drop (off * t.size + min ys.length len * t.size), r1, ?_, hR⟩
        rw [hlen]
        refine ⟨hl3, .inr ⟨g, c, _, rfl, Nat.zero_le _, setRow_heap _ _ _ _ _ _ p2, p3, p4, ?_, ?_⟩⟩
        · have hct : cur.toList.length = cur.size := Array.length_toList
          rw [List.size_toArray, hnew, List.length_append, hl3, List.length_drop]
          omega
        · rw [hnew]
          simp only []
          rw [List.take_left' hl3])
    exact ⟨this.1, this.2, rel_int.2 rfl, fun _ _ => rfl⟩

theorem copyOp_op (hP : TabOK P TT) (h : HRel X keep w0 ι C w) {tt nb : Nat} {x y : AV} {vx vy : Value} (hx : RelV w (okb X w ι C) ι x vx) (hy : RelV w (okb X w ι C) ι y vy) {e : Eff} (hc : copyOp TT tt C x y some = some e) (st ty : Nat) :
    ∃ v w', (Builtin.copy_ #[tt, st] ty #[vx, vy]).run P w = .ok v w' ∧ Out X keep w0 ι C w nb e v w' := by
  unfold copyOp at hc
  split at hc
  · rename_i e1 b off len hk hd
    obtain ⟨td, htd, hk', _⟩ := kindOf_und hP hk (by intro q; cases q)
    obtain ⟨t, e', xs, hC, hv⟩ := dstOf_sound h hx hd
    rw [hC] at hc
    split at hc
    · rename_i te t2 e2 xs2 hte hrow
      injection hrow with q1 q2 q3 q4
      subst q1; subst q2
      have q3 := eq_of_heq q3
      subst q3
      split at hc
      · rename_i hs
        have hs := Nat.eq_of_beq_eq_true hs
        split at hc
        · rename_i ys hys
          injection hc with hc
          subst hc
          exact copy_opN hP h htd hk' hte hs hC hv (srcOf_sound h hy hys) st ty
        · cases hc
      · cases hc
    · cases hc
  · cases hc

theorem copyOp_nat {R : Type} (tt : Nat) (C : Nat → Blk) (x y : AV) (K : Eff → Option R) : copyOp TT tt C x y K = (copyOp TT tt C x y some).bind K := by
  unfold copyOp
  split
  · split
    · split
      · split <;> rfl
      · rfl
    · rfl
  · rfl
end
end Go.Proofs.Rf
/- Rf, part k: an operation of the abstract evaluator, and the model's. -/
namespace Go.Proofs.Rf
open Go Go.RowKit

/-- What is asked of a contract in the table of calls. -/
structure CallOK (P : Program) (f : Nat) (co : CallO) : Prop where
  fn : ∃ fn, P.funcs[f]? = some fn ∧ (fn.name == "runtime.NumGoroutine") = false ∧ fn.body.isNone = false
  run : ∀ (X keep : Nat → Prop) (w0 w : World) (ι : Nat → Option Value) (C : Nat → Blk) (nb : Nat) (args : List AV) (vs : List Value) (e : Eff), HRel X keep w0 ι C w → RelL w (okb X w ι C) ι args vs →
    co args C nb Eff some = some e → (∀ k, nb ≤ k → k < nb + e.new.length → ι k = none) → Calls P f vs.toArray w fun en w' => ∃ v, en = .returned v ∧ Out X keep w0 ι C w nb e v w'
  nat : ∀ (args : List AV) (C : Nat → Blk) (nb : Nat) (R : Type) (K : Eff → Option R), co args C nb R K = (co args C nb Eff some).bind K

/-- .. of a function without a body, which the model knows. -/
structure ExtOK (P : Program) (f : Nat) (co : CallO) : Prop where
  run : ∀ (X keep : Nat → Prop) (w0 w : World) (ι : Nat → Option Value) (C : Nat → Blk) (nb : Nat) (args : List AV) (vs : List Value) (e : Eff), HRel X keep w0 ι C w → RelL w (okb X w ι C) ι args vs →
    co args C nb Eff some = some e → (∀ k, nb ≤ k → k < nb + e.new.length → ι k = none) → ∃ v w', (callFunc f vs.toArray).run P w = .ok (.value v) w' ∧ Out X keep w0 ι C w nb e v w'
  nat : ∀ (args : List AV) (C : Nat → Blk) (nb : Nat) (R : Type) (K : Eff → Option R), co args C nb R K = (co args C nb Eff some).bind K

def AnyOK (P : Program) (f : Nat) (co : CallO) : Prop := CallOK P f co ∨ ExtOK P f co

instance {P : Program} {f : Nat} {co : CallO} : Coe (CallOK P f co) (AnyOK P f co) := ⟨.inl⟩

theorem AnyOK.nat {P : Program} {f : Nat} {co : CallO} (h : AnyOK P f co) (args : List AV) (C : Nat → Blk) (nb : Nat) (R : Type) (K : Eff → Option R) : co args C nb R K = (co args C nb Eff some).bind K := by
  rcases h with h | h
  · exact h.nat ..
  · exact h.nat ..

def CallsOK (P : Program) (Δ : Nat → Option CallO) : Prop := ∀ f co, Δ f = some co → AnyOK P f co

/-- A function that gives back its argument. -/
def sameO : CallO := fun args _ _ _ K => match args with
  | [x] => K ⟨x, [], []⟩
  | _ => none

theorem same_ok {P : Program} {f : Nat} {fn : Func} (hf : P.funcs[f]? = some fn) (hname : (fn.name == "runtime.NumGoroutine") = false)
    (hb : fn.body.isNone = true) (hn : Extern.findNext fn = none) (he : Extern.find fn = some Extern.AbiNoEscape.same) : ExtOK P f sameO where
  run := by
    intro X keep w0 w ι C nb args vs e h hr hc _
    unfold sameO at hc
    split at hc
    · rename_i x
      injection hc with hc
      subst hc
      obtain ⟨v, vr, e1, e2, e3⟩ := RelL_cons.1 hr
      rw [RelL_nil.1 e3] at e1
      subst e1
      exact ⟨v, w, by rw [run_callFunc_extern hf hname hb hn he]; rfl, Out.pure h e2⟩
    · cases hc
  nat := by
    intro args C nb R K
    unfold sameO
    split <;> rfl

section
variable {X keep : Nat → Prop} {w0 w : World} {ι : Nat → Option Value} {C : Nat → Blk} {P : Program} {TT : Tab} {Δ : Nat → Option CallO}

theorem RelL_map {ok : Nat → Prop} {T : Nat → AV} {a : Act} (hT : ∀ t, RelV w ok ι (T t) (a.tmps.getD t undef)) : ∀ l : List Operand, RelL w ok ι (l.map (ev T)) (l.map a.eval)
  | [] => RelL_nil.2 rfl
  | x :: r => RelL_cons.2 ⟨_, _, rfl, ev_rel hT x, RelL_map hT r⟩

theorem df_ne {a : AV} (h : a.df = true) : a ≠ .un ∧ a ≠ .ud := by constructor <;> rintro rfl <;> simp [AV.df] at h

/-- A row of bytes made a string. -/
theorem conv_bytes {ok : Nat → Prop} {src dst e : Nat} {xs : List Int} {vx : Value} (hx : Rz w ok (.sl (.int .u8)) xs [vx]) (hs : P.underlying src = some (.slice e)) (he : P.underlying e = some (.int .u8)) (hd : P.underlying dst = some .string) :
    (convert src dst vx).run P w = .ok (.string ⟨(xs.map fun n : Int => UInt8.ofNat n.toNat).toArray⟩) w := by
  obtain ⟨A, c, e1, e2, e3⟩ := hx
  have e1 : vx = .slice A xs.length c := by injection e1
  subst e1
  rw [run_convert_bytes_string w src dst e A xs.length c hs he hd]
  cases A with
  | none =>
    have hl : xs = [] := by
      rcases Nat.eq_zero_or_pos xs.length with h | h
      · exact List.length_eq_zero_iff.1 h
      · obtain ⟨g, o, cs, q, _⟩ := e3 h
        cases q
    subst hl
    simp [Conv.bytesToString]
    rfl
  | some a =>
    have hl : (loadCells a xs.length).run P w = .ok (xs.map (Value.int .u8)).toArray w := by
      rcases Nat.eq_zero_or_pos xs.length with h | h
      · have h := List.length_eq_zero_iff.1 h
        subst h
        have := run_loadCells_list (P := P) w a [] (fun j v hj => by simp at hj)
        simpa using this
      · obtain ⟨g, o, cs, q1, q2, q3, q4⟩ := e3 h
        injection q1 with q1
        subst q1
        have hc := RzL_bytes q3
        have := run_loadCells_list (P := P) w ⟨g, o, none⟩ cs (fun j v hj => by rw [addr_add]; exact q4 j v hj)
        rw [hc] at this
        simpa using this
    rw [run_bytesToString w a xs.length c xs hl, foldl_push_bytes]
    simp [ByteArray.empty, ByteArray.emptyWithCapacity]
    rfl

/-- The next rune of a string. -/
theorem next_op (h : HRel X keep w0 ι C w) {nb b pos : Nat} {s : List UInt8} {vx : Value} {ty : TypeId} (hx : RelV w (okb X w ι C) ι (.pt b 0) vx) (hb : C b = .it s pos) :
    (pos < s.length → ∃ v w', (Instr.next vx true ty).run P w = .ok v w' ∧
      Out X keep w0 ι C w nb ⟨.tp [.d .bool true, .d (.int .i64) (pos : Int), .d (.int .i32) ((Utf8.decode ⟨s.toArray⟩ pos).1 : Int)], [(b, .it s (pos + (Utf8.decode ⟨s.toArray⟩ pos).2))], []⟩ v w') ∧
    (¬ pos < s.length → ∃ v, (Instr.next vx true ty).run P w = .ok v w ∧ RelV w (okb X w ι C) ι (.tp [.d .bool false]) v) := by
  have hB := h.bl b
  rw [hb] at hB
  obtain ⟨g, h1, h2⟩ := hB
  simp only [RelV] at hx
  obtain ⟨g', h3, h4⟩ := hx
  rw [h1] at h3
  injection h3 with h3
  injection h3 with h3
  injection h3 with h3
  injection h3 with h3
  subst h3; subst h4
  have hgo : (getObj g).run P w = .ok (.stringIter ⟨s.toArray⟩ pos) w := by simp [getObj, Sem.run, h2]
  refine ⟨fun hp => ?_, fun hp => ?_⟩
  · have hset : (setObj g (.stringIter ⟨s.toArray⟩ (pos + (Utf8.decode ⟨s.toArray⟩ pos).2))).run P w = .ok () { w with heap := w.heap.setIfInBounds g (.stringIter ⟨s.toArray⟩ (pos + (Utf8.decode ⟨s.toArray⟩ pos).2)) } := by
      simp [setObj, Sem.run, h2]
    have hp' : pos < (⟨s.toArray⟩ : ByteArray).size := by rw [size_mk]; exact hp
    refine ⟨.tuple #[.bool true, goInt pos, .int .i32 (Utf8.decode ⟨s.toArray⟩ pos).1], { w with heap := w.heap.setIfInBounds g (.stringIter ⟨s.toArray⟩ (pos + (Utf8.decode ⟨s.toArray⟩ pos).2)) }, ?_, ?_⟩
    · simp only [Instr.next, Sem.run_bind, hgo, Result.andThen_ok, hp', if_true, hset, Sem.run_pure]
    · have hlt : g < w.heap.size := (Array.getElem?_eq_some_iff.1 h2).1
      have hbk : bk ι C b = some g := by unfold bk; rw [hb, h1]
      have hbk' : bk ι (setC C b (.it s (pos + (Utf8.decode ⟨s.toArray⟩ pos).2))) b = some g := by unfold bk; rw [setC_self, h1]
      have := h.step (C' := setC C b (.it s (pos + (Utf8.decode ⟨s.toArray⟩ pos).2))) (ι' := ι) (w' := { w with heap := w.heap.setIfInBounds g (.stringIter ⟨s.toArray⟩ (pos + (Utf8.decode ⟨s.toArray⟩ pos).2)) }) (fun j => j = b) rfl rfl rfl (by simp)
        (fun j hj => setC_ne hj) (fun _ _ q => q) (fun _ _ => rfl) (fun k b' hk q => by
          subst hk
          rw [hbk'] at q
          injection q with q
          subst q
          exact .inr ⟨_, rfl, hbk⟩) (fun k k' b' hk hk' _ _ => hk.trans hk'.symm) (fun b' hb' hk => by
            have hne : g ≠ b' := by rintro rfl; exact hk b rfl hbk
            simp [hne]) (fun hext k hk => by
          subst hk
          rw [setC_self]
          exact ⟨g, h1, by simp [hlt]⟩)
      refine ⟨ι, this.1, this.2, ?_, fun _ _ => rfl⟩
      simp only [RelV]
      exact ⟨[.bool true, goInt pos, .int .i32 (Utf8.decode ⟨s.toArray⟩ pos).1], rfl, RelL_cons.2 ⟨_, _, rfl, rel_bool.2 rfl, RelL_cons.2 ⟨_, _, rfl, rel_int.2 rfl, RelL_cons.2 ⟨_, _, rfl, rel_int.2 rfl, RelL_nil.2 rfl⟩⟩⟩⟩
  · have hp' : ¬ pos < (⟨s.toArray⟩ : ByteArray).size := by rw [size_mk]; exact hp
    refine ⟨.tuple #[.bool false], ?_, ?_⟩
    · simp only [Instr.next, Sem.run_bind, hgo, Result.andThen_ok, hp', if_false, Sem.run_pure]
    · simp only [RelV]
      exact ⟨[.bool false], rfl, RelL_cons.2 ⟨_, _, rfl, rel_bool.2 rfl, RelL_nil.2 rfl⟩⟩

theorem lenOf_sound (h : HRel X keep w0 ι C w) {x : AV} {vx : Value} (hx : RelV w (okb X w ι C) ι x vx) {n : Int} (hl : lenOf C x = some n) : ∃ (A : Option Addr) (m c : Nat), vx = .slice A m c ∧ n = m := by
  unfold lenOf at hl
  split at hl
  · injection hl with hl
    subst hl
    simp only [RelV] at hx
    obtain ⟨A, c, e, _⟩ := hx
    injection e with e _
    exact ⟨A, _, c, e, rfl⟩
  · injection hl with hl
    subst hl
    simp only [RelV] at hx
    exact ⟨none, 0, 0, hx, rfl⟩
  · split at hl
    · rename_i b t e xs rw hb
      injection hl with hl
      subst hl
      obtain ⟨A, c, e1, _⟩ := row_cells h hb
      simp only [RelV] at hx
      rw [e1] at hx
      injection hx.1 with q
      exact ⟨A, _, c, q.symm, rfl⟩
    · cases hl
  · injection hl with hl
    subst hl
    simp only [RelV] at hx
    obtain ⟨A, n, c, A', c', _, _, e, _⟩ := hx
    exact ⟨A', _, c', e, rfl⟩
  · cases hl

theorem places_sound (hP : TabOK P TT) : ∀ (fl : List Field), (fl.map (fun f => (f.offset, f.type))).all (fun p => (TT p.2).isSome) = true →
    fl.mapM (fun f => (P.info? f.type).map fun i => (f.offset, i.size)) = some (fl.map fun f => (f.offset, sizeT TT f.type))
  | [], _ => rfl
  | f :: r, h => by
    simp only [List.map_cons, List.all_cons, Bool.and_eq_true] at h
    obtain ⟨td, htd⟩ := Option.isSome_iff_exists.1 h.1
    obtain ⟨i, z, i1, i2, _⟩ := (hP f.type td htd).ex
    have ih := places_sound hP r h.2
    simp [List.mapM_cons, i1, i2, ih, sizeT, htd]

theorem build_st (hP : TabOK P TT) {ok : Nat → Prop} {tt : Nat} {td : TD} (htd : TT tt = some td) {fs : List (Nat × Nat)} (hk : td.k = .st fs) {T : Nat → AV} {a : Act} (hT : ∀ t, RelV w ok ι (T t) (a.tmps.getD t undef)) {parts : Array (Nat × Operand)}
    (hc : (fs.all (fun p => (TT p.2).isSome) && parts.toList.all (fun p => (ev T p.2).df)) = true) {cs : List AV}
    (hf : fillC (placeSt TT fs) td.zero (parts.toList.map fun p => (p.1, ev T p.2)) = some cs) :
    ∃ v, (Instr.build tt (parts.map fun (i, x) => (i, a.eval x))).run P w = .ok v w ∧ RelV w ok ι (.ag cs) v := by
  rw [Bool.and_eq_true] at hc
  obtain ⟨c1, c2⟩ := hc
  obtain ⟨i, z, i1, i2, i3, i4, i5, i6, i7⟩ := (hP tt td htd).ex
  have hu := (hP tt td htd).und
  rw [hk] at hu
  obtain ⟨fields, hu, hfs⟩ := hu
  have hpl : placeSt TT fs = fun i => (fields.toList.map fun f => (f.offset, sizeT TT f.type)).toArray[i]? := by
    funext i
    rw [← hfs]
    simp only [placeSt, List.getElem?_map, List.getElem?_toArray]
    cases fields.toList[i]? <;> rfl
  rw [hpl] at hf
  obtain ⟨us', r1, r2⟩ := fill_sound hT parts.toList td.zero z.cells cs (i5 _ _ _) (fun p hp => df_ne (List.all_eq_true.1 c2 p hp)) hf
  refine ⟨.agg us', run_build w tt _ us' ?_, ?_⟩
  · have hp := places_sound hP fields.toList (by rw [hfs]; exact c1)
    have hparts : (parts.map fun (i, x) => (i, a.eval x)).toList = parts.toList.map fun p => (p.1, a.eval p.2) := by rw [Array.toList_map]
    simp only [Program.built, i1, hu, i4, hp, hparts, r1]
  · simp only [RelV]
    exact ⟨us'.toList, by simp, r2⟩

theorem build_ar (hP : TabOK P TT) {ok : Nat → Prop} {tt m e : Nat} {td : TD} (htd : TT tt = some td) (hk : td.k = .ar m e) {T : Nat → AV} {a : Act} (hT : ∀ t, RelV w ok ι (T t) (a.tmps.getD t undef)) {parts : Array (Nat × Operand)}
    (hc : ((TT e).isSome && parts.toList.all (fun p => (ev T p.2).df)) = true) {cs : List AV}
    (hf : fillC (fun i => some (i * sizeT TT e, sizeT TT e)) td.zero (parts.toList.map fun p => (p.1, ev T p.2)) = some cs) :
    ∃ v, (Instr.build tt (parts.map fun (i, x) => (i, a.eval x))).run P w = .ok v w ∧ RelV w ok ι (.ag cs) v := by
  rw [Bool.and_eq_true] at hc
  obtain ⟨c1, c2⟩ := hc
  obtain ⟨te, hte⟩ := Option.isSome_iff_exists.1 c1
  obtain ⟨i, z, i1, i2, i3, i4, i5, i6, i7⟩ := (hP tt td htd).ex
  obtain ⟨ie, ze, j1, j2, _⟩ := (hP e te hte).ex
  have hu := (hP tt td htd).und
  rw [hk] at hu
  have hu : P.underlying tt = some (.array m e) := hu
  obtain ⟨us', r1, r2⟩ := fill_sound hT parts.toList td.zero z.cells cs (i5 _ _ _) (fun p hp => df_ne (List.all_eq_true.1 c2 p hp)) hf
  refine ⟨.agg us', run_build w tt _ us' ?_, ?_⟩
  · have hparts : (parts.map fun (i, x) => (i, a.eval x)).toList = parts.toList.map fun p => (p.1, a.eval p.2) := by rw [Array.toList_map]
    rw [show sizeT TT e = ie.size by simp [sizeT, hte, j2]] at r1
    simp only [Program.built, i1, hu, i4, j1, hparts, r1]
  · simp only [RelV]
    exact ⟨us'.toList, by simp, r2⟩

theorem isSlT_sound (hP : TabOK P TT) {tt : Nat} : isSlT TT tt = true → ∃ e, P.underlying tt = some (.slice e) := by
  intro h
  unfold isSlT at h
  split at h
  · rename_i td htd
    split at h
    · rename_i e hk
      have := (hP tt td htd).und
      rw [hk] at this
      exact ⟨e, this⟩
    · cases h
  · cases h

theorem bin_nat {R : Type} (bt st : Bool) (op : BinOp) (a b : AV) (K : AV → Option R) : bin bt st op a b K = (bin bt st op a b some).bind K := by
  unfold bin
  repeat' split
  all_goals rfl

theorem uny_nat {R : Type} (op : UnOp) (a : AV) (K : AV → Option R) : uny op a K = (uny op a some).bind K := by
  unfold uny
  repeat' split
  all_goals rfl

theorem sliceGo_nat {R : Type} (n l h : Int) (sub : AV) (K : AV → Option R) : sliceGo n l h sub K = (sliceGo n l h sub some).bind K := by
  unfold sliceGo
  repeat' split
  all_goals rfl

theorem sliceAt_nat {R : Type} (n : Int) (lo hi : Option AV) (cut : Int → Int → AV) (full : Int → AV) (all : AV) (K : AV → Option R) : sliceAt n lo hi cut full all K = (sliceAt n lo hi cut full all some).bind K := by
  unfold sliceAt
  split
  · rfl
  · exact sliceGo_nat ..
  · exact sliceGo_nat ..
  · exact sliceGo_nat ..
  · rfl

theorem sliceOp_nat {R : Type} (tt : Nat) (C : Nat → Blk) (v : AV) (lo hi : Option AV) (K : AV → Option R) : sliceOp TT tt C v lo hi K = (sliceOp TT tt C v lo hi some).bind K := by
  unfold sliceOp
  split
  · split
    · exact sliceAt_nat ..
    · split
      · exact sliceAt_nat ..
      · rfl
    · split
      · split
        · exact sliceAt_nat ..
        · rfl
      · rfl
    · split
      · exact sliceAt_nat ..
      · rfl
    · rfl
  · rfl

theorem idxAV_nat {R : Type} (C : Nat → Blk) (e : Nat) (n : Int) (x : AV) (K : AV → Option R) : idxAV TT C e n x K = (idxAV TT C e n x some).bind K := by
  unfold idxAV
  split
  · split
    · repeat' split
      all_goals rfl
    · rfl
  · repeat' split
    all_goals rfl
  · repeat' split
    all_goals rfl
  · rfl

theorem chain_nat {R : Type} (i b o sz : Nat) (x : Int) (K : AV → Option R) : ∀ n, chain i b o sz x K n = (chain i b o sz x some n).bind K := by
  intro n
  induction n generalizing i with
  | zero => rfl
  | succ n ih =>
    simp only [chain]
    split
    · rfl
    · exact ih _

theorem mapLook_nat {R : Type} {TT : Tab} (tt : Nat) (C : Nat → Blk) (x y : AV) (comma : Bool) (K : AV → Option R) : mapLook TT tt C x y comma K = (mapLook TT tt C x y comma some).bind K := by
  unfold mapLook
  repeat' split
  all_goals rfl

theorem mapSet_nat {R : Type} {TT : Tab} (tt : Nat) (C : Nat → Blk) (x y z : AV) (K : Eff → Option R) : mapSet TT tt C x y z K = (mapSet TT tt C x y z some).bind K := by
  unfold mapSet
  repeat' split
  all_goals rfl

theorem mapDel_nat {R : Type} {TT : Tab} (tt : Nat) (C : Nat → Blk) (x y : AV) (K : Eff → Option R) : mapDel TT tt C x y K = (mapDel TT tt C x y some).bind K := by
  unfold mapDel
  repeat' split
  all_goals rfl

theorem chainV_nat {R : Type} (i sz : Nat) (cs : List AV) (x : Int) (K : AV → Option R) : ∀ n, chainV i sz cs x K n = (chainV i sz cs x some n).bind K := by
  intro n
  induction n generalizing i with
  | zero => rfl
  | succ n ih =>
    simp only [chainV]
    split
    · rfl
    · exact ih _

theorem chainA_nat {R : Type} (TT : Tab) (e sz : Nat) (cs : List AV) (x : Int) (K : AV → Option R) : ∀ i n, chainA TT e sz cs x K i n = (chainA TT e sz cs x some i n).bind K := by
  intro i n
  induction n generalizing i with
  | zero => rfl
  | succ n ih =>
    simp only [chainA]
    split
    · split <;> rfl
    · exact ih _

theorem isBoolT_sound (hP : TabOK P TT) {tt : Nat} (h : isBoolT TT tt = true) : P.underlying tt = some .bool := by
  unfold isBoolT at h
  split at h
  · rename_i td htd
    split at h
    · rename_i hk
      have hu := (hP tt td htd).und
      rw [hk] at hu
      exact hu
    · cases h
  · cases h

theorem kindOf_str (hP : TabOK P TT) {tt : Nat} (h : kindOf TT tt = .str) : P.underlying tt = some .string := by
  unfold kindOf at h
  split at h
  · rename_i td htd
    have hu := (hP tt td htd).und
    rw [h] at hu
    exact hu
  · cases h

theorem kindOf_sl (hP : TabOK P TT) {tt e : Nat} (h : kindOf TT tt = .sl e) : P.underlying tt = some (.slice e) := by
  unfold kindOf at h
  split at h
  · rename_i td htd
    have hu := (hP tt td htd).und
    rw [h] at hu
    exact hu
  · cases h

theorem kindOf_mp (hP : TabOK P TT) {tt k e : Nat} (h : kindOf TT tt = .mp k e) : P.underlying tt = some (.map k e) := by
  unfold kindOf at h
  split at h
  · rename_i td htd
    have hu := (hP tt td htd).und
    rw [h] at hu
    exact hu
  · cases h

theorem runs_v {s : Sem Value} {Post : Value → World → Prop} (h : ∃ v w', s.run P w = .ok v w' ∧ Post v w') : Runs P (do pure (.value (← s))) w Post := by
  obtain ⟨v, w', h1, h2⟩ := h
  exact ⟨v, w', .inl (by simp [h1]), h2⟩
theorem runs_u {s : Sem Unit} {Post : Value → World → Prop} (h : ∃ w', s.run P w = .ok () w' ∧ Post undef w') : Runs P (do s; pure .skip) w Post := by
  obtain ⟨w', h1, h2⟩ := h
  exact ⟨undef, w', .inr ⟨by simp [h1], rfl⟩, h2⟩
theorem runs_pure {v : Value} {Post : Value → World → Prop} (h : Post v w) : Runs P (pure (.value v)) w Post := ⟨v, w, .inl rfl, h⟩

theorem evOp_sound (hP : TabOK P TT) (hΔ : CallsOK P Δ) (h : HRel X keep w0 ι C w) {T : Nat → AV} {a : Act} (hT : ∀ t, RelV w (okb X w ι C) ι (T t) (a.tmps.getD t undef)) {o : Oper} {nb : Nat} {e : Eff}
    (hev : evOp TT Δ o T C nb (R := Eff) some = some e) (hn : ∀ k, nb ≤ k → k < nb + e.new.length → ι k = none) {Q : Exit → Act → World → Prop} :
    o.wp P a w (fun a' w' => ∃ v, a' = a.put o.dst v ∧ Out X keep w0 ι C w nb e v w') Q := by
  unfold evOp at hev
  have hE := fun x => ev_rel (ok := okb X w ι C) hT x
  have hG := fun x => evG_rel h.gl hT x
  split at hev
  case h_1 x hop =>
    refine Runs.wp (Post := Out X keep w0 ι C w nb e) ?_ (fun v w' hv => ⟨v, rfl, hv⟩)
    unfold execOp
    rw [hop]
    exact runs_pure (Out.of_some h hev (hE x))
  case h_2 x hop =>
    refine Runs.wp (Post := Out X keep w0 ι C w nb e) ?_ (fun v w' hv => ⟨v, rfl, hv⟩)
    unfold execOp
    rw [hop]
    exact runs_pure (Out.of_some h hev (hE x))
  case h_3 c x y hop =>
    refine Runs.wp (Post := Out X keep w0 ι C w nb e) ?_ (fun v w' hv => ⟨v, rfl, hv⟩)
    unfold execOp
    rw [hop]
    split at hev
    · rename_i cb hc
      have h1 := hE c
      rw [hc, rel_bool] at h1
      refine ⟨if cb = true then a.eval x else a.eval y, w, .inl (by simp [h1, asBool]), ?_⟩
      split at hev
      · rename_i bx by' hx hy
        have h2 := hE x
        have h3 := hE y
        rw [hx, rel_bool] at h2
        rw [hy, rel_bool] at h3
        exact Out.of_some h hev (rel_bool.2 (by cases cb <;> simp [h2, h3]))
      · cases cb
        · exact Out.of_some h (by simpa using hev) (by simpa using hE y)
        · exact Out.of_some h (by simpa using hev) (by simpa using hE x)
    · cases hev
  case h_4 e0 hop =>
    refine Runs.wp (Post := Out X keep w0 ι C w nb e) ?_ (fun v w' hv => ⟨v, rfl, hv⟩)
    unfold execOp
    rw [hop]
    split at hev
    · rename_i td htd
      injection hev with hev
      subst hev
      exact runs_v (alloc_op hP h (hn nb (Nat.le_refl _) (by simp)) htd)
    · cases hev
  case h_5 e0 x hop =>
    refine Runs.wp (Post := Out X keep w0 ι C w nb e) ?_ (fun v w' hv => ⟨v, rfl, hv⟩)
    unfold execOp
    rw [hop]
    split at hev
    · split at hev
      · rename_i ta tb ht cs hx
        have h1 := hE x
        rw [hx] at h1
        split at hev
        · rename_i t f hnd
          injection hev with hev
          subst hev
          exact runs_v (node_op h h1 hnd)
        · cases hev
      · cases hev
    split at hev
    · cases hev
    · cases hev
    · rename_i n1 n2
      injection hev with hev
      subst hev
      exact runs_v (box_op h (hn nb (Nat.le_refl _) (by simp)) (hE x) n1 n2)
  case h_6 tt parts hop =>
    refine Runs.wp (Post := Out X keep w0 ι C w nb e) ?_ (fun v w' hv => ⟨v, rfl, hv⟩)
    unfold execOp
    rw [hop]
    split at hev
    · rename_i td htd
      split at hev
      · rename_i fs hk
        split at hev
        · rename_i hc
          split at hev
          · rename_i cs hf
            obtain ⟨v, r1, r2⟩ := build_st hP htd hk hT hc hf
            exact runs_v ⟨v, w, r1, Out.of_some h hev r2⟩
          · cases hev
        · cases hev
      · rename_i m e1 hk
        split at hev
        · rename_i hc
          split at hev
          · rename_i cs hf
            obtain ⟨v, r1, r2⟩ := build_ar hP htd hk hT hc hf
            exact runs_v ⟨v, w, r1, Out.of_some h hev r2⟩
          · cases hev
        · cases hev
      · cases hev
    · cases hev
  case h_7 tt len parts hop =>
    refine Runs.wp (Post := Out X keep w0 ι C w nb e) ?_ (fun v w' hv => ⟨v, rfl, hv⟩)
    unfold execOp
    rw [hop]
    split at hev
    · rename_i td htd
      split at hev
      · rename_i e1 hk
        split at hev
        · rename_i te hte
          split at hev
          · rename_i ty hty
            split at hev
            · rename_i xs f hp
              split at hev
              · rename_i hc
                injection hev with hev
                subst hev
                exact runs_v (buildSlice_op hP h (hn nb (Nat.le_refl _) (by simp)) htd hk hte hty hT hp hc)
              · cases hev
            · cases hev
          · cases hev
        · cases hev
      · cases hev
    · cases hev
  case h_8 tt x hop =>
    refine Runs.wp (Post := Out X keep w0 ι C w nb e) ?_ (fun v w' hv => ⟨v, rfl, hv⟩)
    unfold execOp
    rw [hop]
    split at hev
    · rename_i r hr
      obtain ⟨v, r1, r2⟩ := load_op hP h (hG x) hr
      exact runs_v ⟨v, w, r1, Out.of_some h hev r2⟩
    · cases hev
  case h_9 tt ad x hop =>
    refine Runs.wp (Post := Out X keep w0 ι C w nb e) ?_ (fun v w' hv => ⟨v, rfl, hv⟩)
    unfold execOp
    rw [hop]
    have ha := hE ad
    generalize ev T ad = av at hev ha
    cases av
    case pt b o' =>
      simp only at hev
      split at hev
      · rename_i cs hb
        split at hev
        · rename_i i r hcut
          split at hev
          · rename_i hc
            injection hev with hev
            subst hev
            exact runs_u (cut_store hP h ha (hE x) hb hcut (hn nb (Nat.le_refl _) (by simp)) hc)
          · cases hev
        · split at hev
          · rename_i hc
            injection hev with hev
            subst hev
            exact runs_u (store_box hP h ha (hE x) hb hc)
          · cases hev
      · cases hev
    case pe b sz i o' =>
      simp only at hev
      split at hev
      · rename_i t e1 xs hb
        split at hev
        · rename_i hc
          split at hev
          · rename_i y hp
            injection hev with hev
            subst hev
            exact runs_u (store_row hP h ha (hE x) hb hc hp)
          · cases hev
        · cases hev
      · cases hev
    all_goals cases hev
  case h_10 x hop =>
    refine Runs.wp (Post := Out X keep w0 ι C w nb e) ?_ (fun v w' hv => ⟨v, rfl, hv⟩)
    unfold execOp
    rw [hop]
    have hx := hE x
    split at hev
    · rename_i b o' hb
      rw [hb] at hx
      have h0 := hx
      simp only [RelV] at h0
      obtain ⟨g, _, h2⟩ := h0
      rw [h2] at hx
      simp only [h2]
      exact runs_pure (Out.of_some h hev hx)
    · rename_i b s i o' hb
      rw [hb] at hx
      have h0 := hx
      simp only [RelV] at h0
      obtain ⟨g, n, c, _, _, h2⟩ := h0
      rw [h2] at hx
      simp only [h2]
      exact runs_pure (Out.of_some h hev hx)
    · rename_i cs hb
      rw [hb] at hx
      have h0 := hx
      simp only [RelV] at h0
      obtain ⟨g, o, us, h2, _⟩ := h0
      rw [h2] at hx
      simp only [h2]
      exact runs_pure (Out.of_some h hev hx)
    · rename_i ta tb t hb
      rw [hb] at hx
      split at hev
      · cases hev
      · rename_i hnil
        obtain ⟨h1, g, h2⟩ := tree_cells hx hnil
        rw [h2] at h1
        simp only [h2]
        exact runs_pure (Out.of_some h hev h1)
    · rename_i f cs hb
      rw [hb] at hx
      have h0 := hx
      simp only [RelV] at h0
      obtain ⟨us, h2, _⟩ := h0
      rw [h2] at hx
      simp only [h2]
      exact runs_pure (Out.of_some h hev hx)
    · rename_i f cs hb
      rw [hb] at hx
      have h0 := hx
      simp only [RelV] at h0
      obtain ⟨us, h2, _⟩ := h0
      rw [h2] at hx
      simp only [h2]
      exact runs_pure (Out.of_some h hev hx)
    · cases hev
  case h_11 op tt x y yt hop =>
    refine Runs.wp (Post := Out X keep w0 ι C w nb e) ?_ (fun v w' hv => ⟨v, rfl, hv⟩)
    unfold execOp
    rw [hop]
    have key : ∀ b, eqNil TT tt op (ev T x) (ev T y) = some b → some (⟨.d .bool b, [], []⟩ : Eff) = some e → Runs P (do pure (.value (← (do eqGuard op tt x y (a.eval x) (a.eval y); binOp op tt (a.eval x) (a.eval y) : Sem Value)))) w (Out X keep w0 ι C w nb e) := by
      intro b hb he
      obtain ⟨v, r1, r2⟩ := eqNil_sound (x := x) (y := y) hP (hE x) (hE y) hb
      exact runs_v ⟨v, w, r1, Out.of_some h he r2⟩
    split at hev
    · rename_i b hb
      exact key b hb hev
    rename_i hnil
    have hev : ∃ r, bin (isBoolT TT tt) (isSlT TT tt) op (ev T x) (ev T y) some = some r ∧ (some (⟨r, [], []⟩ : Eff)) = some e := by
      have hnat := bin_nat (isBoolT TT tt) (isSlT TT tt) op (ev T x) (ev T y) (fun r => some (⟨r, [], []⟩ : Eff))
      rw [hnat] at hev
      cases hb : bin (isBoolT TT tt) (isSlT TT tt) op (ev T x) (ev T y) some with
      | none => rw [hb] at hev; cases hev
      | some r => rw [hb] at hev; exact ⟨r, rfl, hev⟩
    obtain ⟨r, h1, h2⟩ := hev
    obtain ⟨v, r1, r2⟩ := bin_sound (P := P) (t := tt) (x := x) (y := y) (isBoolT_sound hP) (isSlT_sound hP) (hE x) (hE y) h1
    exact runs_v ⟨v, w, r1, Out.of_some h h2 r2⟩
  case h_12 op xt x hop =>
    refine Runs.wp (Post := Out X keep w0 ι C w nb e) ?_ (fun v w' hv => ⟨v, rfl, hv⟩)
    unfold execOp
    rw [hop]
    have hev : ∃ r, uny op (ev T x) some = some r ∧ (some (⟨r, [], []⟩ : Eff)) = some e := by
      rw [uny_nat op (ev T x) (fun r => some (⟨r, [], []⟩ : Eff))] at hev
      cases hb : uny op (ev T x) some with
      | none => rw [hb] at hev; cases hev
      | some r => rw [hb] at hev; exact ⟨r, rfl, hev⟩
    obtain ⟨r, h1, h2⟩ := hev
    obtain ⟨v, r1, r2⟩ := uny_sound (P := P) (hE x) h1
    exact runs_v ⟨v, w, r1, Out.of_some h h2 r2⟩
  case h_13 src dst x hop =>
    refine Runs.wp (Post := Out X keep w0 ι C w nb e) ?_ (fun v w' hv => ⟨v, rfl, hv⟩)
    unfold execOp
    rw [hop]
    split at hev
    · rename_i ts td k n hts htd hx
      have h1 := hE x
      rw [hx, rel_int] at h1
      split at hev
      · rename_i k' hk
        have hu := (hP dst td htd).und
        rw [hk] at hu
        have hu : P.underlying dst = some (.int k') := hu
        obtain ⟨ds, hds⟩ : ∃ ds, P.underlying src = some ds := by
          have := (hP src ts hts).und
          cases hk2 : ts.k <;> rw [hk2] at this
          · exact ⟨_, this⟩
          · exact ⟨_, this⟩
          · exact ⟨_, this⟩
          · exact ⟨_, this⟩
          · exact ⟨_, this⟩
          · obtain ⟨fields, h3, _⟩ := this; exact ⟨_, h3⟩
          · exact ⟨_, this⟩
          · exact ⟨_, this⟩
          · exact ⟨_, this⟩
          · obtain ⟨d, h3, _⟩ := this; exact ⟨_, h3⟩
        refine runs_v ⟨.int k' (k'.wrap n), w, ?_, Out.of_some h hev (rel_int.2 rfl)⟩
        rw [h1]
        simp [convert, run_und hds, run_und hu, Conv.intToInt]
      · cases hev
    · rename_i ts td hts htd _
      split at hev
      · rename_i e1 hk1 hk2
        split at hev
        · rename_i xs fz hk3 hdat
          have hx := (dat1_sound h (FrozenOf.refl C) (hE x) hdat).2
          have hu1 : P.underlying src = some (.slice e1) := by
            have := (hP src ts hts).und
            rw [hk1] at this
            exact this
          have hu2 : P.underlying dst = some .string := by
            have := (hP dst td htd).und
            rw [hk2] at this
            exact this
          have hu3 : P.underlying e1 = some (.int .u8) := by
            unfold kindOf at hk3
            cases hte : TT e1 with
            | none => rw [hte] at hk3; cases hk3
            | some te =>
              rw [hte] at hk3
              have := (hP e1 te hte).und
              rw [show te.k = .int .u8 from hk3] at this
              exact this
          exact runs_v ⟨_, w, conv_bytes hx hu1 hu3 hu2, Out.of_some h hev (rel_str.2 rfl)⟩
        · cases hev
      · have hev : ∃ r, unsf TT C ts.k td.k (ev T x) some = some r ∧ (some (⟨r, [], []⟩ : Eff)) = some e := by
          rw [unsf_nat C ts.k td.k (ev T x) (fun r => some (⟨r, [], []⟩ : Eff))] at hev
          cases hb : unsf TT C ts.k td.k (ev T x) some with
          | none => rw [hb] at hev; cases hev
          | some r => rw [hb] at hev; exact ⟨r, rfl, hev⟩
        obtain ⟨r, h1, h2⟩ := hev
        obtain ⟨r1, r2⟩ := unsf_op hP h hts htd (hE x) h1
        exact runs_v ⟨_, w, r1, Out.of_some h h2 r2⟩
    · cases hev
  case h_14 tt l c hop =>
    refine Runs.wp (Post := Out X keep w0 ι C w nb e) ?_ (fun v w' hv => ⟨v, rfl, hv⟩)
    unfold execOp
    rw [hop]
    split at hev
    · rename_i td htd
      split at hev
      · rename_i e1 hk
        split at hev
        · rename_i te hte
          split at hev
          · rename_i ty k x k' y hty hl hc
            have h1 := hE l
            have h2 := hE c
            rw [hl, rel_int] at h1
            rw [hc, rel_int] at h2
            split at hev
            · rename_i hcc
              simp only [Bool.and_eq_true] at hcc
              obtain ⟨⟨⟨c1, c2⟩, c3⟩, c4⟩ := hcc
              obtain rfl := ikEq_eq c1
              obtain rfl := ikEq_eq c2
              split at hev
              · rename_i d1
                split at hev
                · rename_i d2
                  split at hev
                  · rename_i d3
                    injection hev with hev
                    subst hev
                    simp only [h1, h2]
                    exact runs_v (make_op hP h (hn nb (Nat.le_refl _) (by simp)) htd hk hte hty (Nat.le_of_ble_eq_true c3) (Nat.le_of_ble_eq_true c4) d1 d2 d3)
                  · cases hev
                · cases hev
              · cases hev
            · cases hev
          · cases hev
        · cases hev
      · cases hev
    · cases hev
  case h_15 tt x lo hi hop =>
    refine Runs.wp (Post := Out X keep w0 ι C w nb e) ?_ (fun v w' hv => ⟨v, rfl, hv⟩)
    unfold execOp
    rw [hop]
    have hev : ∃ r, sliceOp TT tt C (ev T x) (lo.map (ev T)) (hi.map (ev T)) some = some r ∧ (some (⟨r, [], []⟩ : Eff)) = some e := by
      rw [sliceOp_nat tt C (ev T x) (lo.map (ev T)) (hi.map (ev T)) (fun r => some (⟨r, [], []⟩ : Eff))] at hev
      cases hb : sliceOp TT tt C (ev T x) (lo.map (ev T)) (hi.map (ev T)) some with
      | none => rw [hb] at hev; cases hev
      | some r => rw [hb] at hev; exact ⟨r, rfl, hev⟩
    obtain ⟨r, h1, h2⟩ := hev
    have hopt : ∀ (y : Option Operand) (z : AV), y.map (ev T) = some z → ∃ v, y.map a.eval = some v ∧ RelV w (okb X w ι C) ι z v := by
      intro y z hz
      cases y with
      | none => cases hz
      | some y => injection hz with hz; subst hz; exact ⟨_, rfl, hE y⟩
    have hopt' : ∀ (y : Option Operand), y.map (ev T) = none → y.map a.eval = none := by
      intro y hz
      cases y with
      | none => rfl
      | some y => cases hz
    obtain ⟨v, r1, r2⟩ := slice_op hP h (hE x) (hopt lo) (hopt' lo) (hopt hi) (hopt' hi) h1
    exact runs_v ⟨v, w, r1, Out.of_some h h2 r2⟩
  case h_16 tt x f hop =>
    refine Runs.wp (Post := Out X keep w0 ι C w nb e) ?_ (fun v w' hv => ⟨v, rfl, hv⟩)
    unfold execOp
    rw [hop]
    split at hev
    · rename_i off ft hf
      split at hev
      · rename_i hs
        split at hev
        · rename_i r hr
          obtain ⟨v, r1, r2⟩ := fieldAddr_op hP hf hs (hG x) hr
          exact runs_v ⟨v, w, r1, Out.of_some h hev r2⟩
        · cases hev
      · cases hev
    · cases hev
  case h_17 tt x f hop =>
    refine Runs.wp (Post := Out X keep w0 ι C w nb e) ?_ (fun v w' hv => ⟨v, rfl, hv⟩)
    unfold execOp
    rw [hop]
    split at hev
    · rename_i off ft hf
      split at hev
      · rename_i cs hx
        split at hev
        · rename_i r hl
          have h1 := hE x
          rw [hx] at h1
          obtain ⟨v, r1, r2⟩ := field_op hP hf h1 hl
          exact runs_v ⟨v, w, r1, Out.of_some h hev r2⟩
        · cases hev
      · cases hev
    · cases hev
  case h_18 tt x ix hop =>
    refine Runs.wp (Post := Out X keep w0 ι C w nb e) ?_ (fun v w' hv => ⟨v, rfl, hv⟩)
    unfold execOp
    rw [hop]
    split at hev
    · rename_i td k n htd hix
      have h1 := hE ix
      rw [hix, rel_int] at h1
      simp only [h1]
      have hx := hE x
      split at hev
      · rename_i e1 hk
        have : ∃ r, idxAV TT C e1 n (ev T x) some = some r ∧ (some (⟨r, [], []⟩ : Eff)) = some e := by
          rw [idxAV_nat C e1 n (ev T x) (fun r => some (⟨r, [], []⟩ : Eff))] at hev
          cases hc : idxAV TT C e1 n (ev T x) some with
          | none => rw [hc] at hev; cases hev
          | some r => rw [hc] at hev; exact ⟨r, rfl, hev⟩
        obtain ⟨r, h2, h3⟩ := this
        obtain ⟨v, r1, r2⟩ := indexAddr_sl hP h htd hk hx h2
        exact runs_v ⟨v, w, r1, Out.of_some h h3 r2⟩
      · rename_i m e1 hk
        have hx := hG x
        split at hev
        · rename_i b o' hb
          rw [hb] at hx
          split at hev
          · rename_i hs
            have : ∃ r, chain (R := AV) 0 b o' (sizeT TT e1) n some m = some r ∧ (some (⟨r, [], []⟩ : Eff)) = some e := by
              rw [chain_nat 0 b o' (sizeT TT e1) n (fun r => some (⟨r, [], []⟩ : Eff)) m] at hev
              cases hc : chain (R := AV) 0 b o' (sizeT TT e1) n some m with
              | none => rw [hc] at hev; cases hev
              | some r => rw [hc] at hev; exact ⟨r, rfl, hev⟩
            obtain ⟨r, h2, h3⟩ := this
            obtain ⟨v, r1, r2⟩ := indexAddr_ar hP htd hk hs hx h2
            exact runs_v ⟨v, w, r1, Out.of_some h h3 r2⟩
          · cases hev
        · rename_i cs hb
          rw [hb] at hx
          split at hev
          · rename_i hs
            have : ∃ r, chainV (R := AV) 0 (sizeT TT e1) cs n some m = some r ∧ (some (⟨r, [], []⟩ : Eff)) = some e := by
              rw [chainV_nat 0 (sizeT TT e1) cs n (fun r => some (⟨r, [], []⟩ : Eff)) m] at hev
              cases hc : chainV (R := AV) 0 (sizeT TT e1) cs n some m with
              | none => rw [hc] at hev; cases hev
              | some r => rw [hc] at hev; exact ⟨r, rfl, hev⟩
            obtain ⟨r, h2, h3⟩ := this
            obtain ⟨v, r1, r2⟩ := indexAddr_arV hP htd hk hs hx h2
            exact runs_v ⟨v, w, r1, Out.of_some h h3 r2⟩
          · cases hev
        · cases hev
      · cases hev
    · cases hev
  case h_19 tt x ix hop =>
    refine Runs.wp (Post := Out X keep w0 ι C w nb e) ?_ (fun v w' hv => ⟨v, rfl, hv⟩)
    unfold execOp
    rw [hop]
    split at hev
    · rename_i td k n s htd hix hx
      split at hev
      · rename_i hk
        split at hev
        · rename_i d1
          split at hev
          · rename_i d2
            have h1 := hE ix
            rw [hix, rel_int] at h1
            have h2 := hE x
            rw [hx, rel_str] at h2
            have hu := (hP tt td htd).und
            rw [hk] at hu
            simp only [h1, h2]
            exact runs_v ⟨_, w, index_op hu d1 d2, Out.of_some h hev (rel_int.2 rfl)⟩
          · cases hev
        · cases hev
      · cases hev
    · rename_i td k n cs htd hix hx
      split at hev
      · rename_i m e1 hk
        split at hev
        · rename_i hs
          have h1 := hE ix
          rw [hix, rel_int] at h1
          have h2 := hE x
          rw [hx] at h2
          simp only [h1]
          have : ∃ r, chainA (R := AV) TT e1 (sizeT TT e1) cs n some 0 m = some r ∧ (some (⟨r, [], []⟩ : Eff)) = some e := by
            rw [chainA_nat TT e1 (sizeT TT e1) cs n (fun r => some (⟨r, [], []⟩ : Eff)) 0 m] at hev
            cases hc : chainA (R := AV) TT e1 (sizeT TT e1) cs n some 0 m with
            | none => rw [hc] at hev; cases hev
            | some r => rw [hc] at hev; exact ⟨r, rfl, hev⟩
          obtain ⟨r, h3, h4⟩ := this
          obtain ⟨v, r1, r2⟩ := index_ar hP htd hk hs h2 h3
          exact runs_v ⟨v, w, r1, Out.of_some h h4 r2⟩
        · cases hev
      · cases hev
    · cases hev
  case h_20 x i hop =>
    refine Runs.wp (Post := Out X keep w0 ι C w nb e) ?_ (fun v w' hv => ⟨v, rfl, hv⟩)
    unfold execOp
    rw [hop]
    split at hev
    · rename_i cs hx
      split at hev
      · rename_i y hy
        have h1 := hE x
        rw [hx] at h1
        simp only [RelV] at h1
        obtain ⟨us, h2, h3⟩ := h1
        obtain ⟨v, h4, h5⟩ := RelL_get i y h3 hy
        refine runs_v ⟨v, w, ?_, Out.of_some h hev h5⟩
        rw [h2]
        simp [Instr.extract, h4]
      · cases hev
    · cases hev
  case h_21 f first captured hop =>
    refine Runs.wp (Post := Out X keep w0 ι C w nb e) ?_ (fun v w' hv => ⟨v, rfl, hv⟩)
    unfold execOp
    rw [hop]
    split at hev
    · rename_i hf
      have hf := Nat.eq_of_beq_eq_true hf
      have hf : first = #[] := Array.eq_empty_of_size_eq_zero hf
      subst hf
      refine runs_v ⟨.func (.func f) #[] (captured.map a.eval), w, by simp [Instr.makeFunc], Out.of_some h hev ?_⟩
      simp only [RelV]
      exact ⟨captured.toList.map a.eval, by rw [← Array.toList_map], RelL_map hT captured.toList⟩
    · split at hev
      · rename_i hf
        have hf := Nat.eq_of_beq_eq_true hf
        have hf : captured = #[] := Array.eq_empty_of_size_eq_zero hf
        subst hf
        refine runs_v ⟨.func (.func f) (first.map a.eval) #[], w, by simp [Instr.makeFunc], Out.of_some h hev ?_⟩
        simp only [RelV]
        exact ⟨first.toList.map a.eval, by rw [← Array.toList_map], RelL_map hT first.toList⟩
      · cases hev
  case h_22 tt x hop =>
    refine Runs.wp (Post := Out X keep w0 ι C w nb e) ?_ (fun v w' hv => ⟨v, rfl, hv⟩)
    unfold execOp
    rw [hop]
    split at hev
    · rename_i s hk hx
      injection hev with hev
      subst hev
      have h1 := hE x
      rw [hx, rel_str] at h1
      simp only [h1]
      exact runs_v (range_op (kindOf_str hP hk) h (hn nb (Nat.le_refl _) (by simp)))
    · cases hev
  case h_23 x hop =>
    refine Runs.wp (Post := Out X keep w0 ι C w nb e) ?_ (fun v w' hv => ⟨v, rfl, hv⟩)
    unfold execOp
    rw [hop]
    split at hev
    · rename_i b hb
      have h1 := hE x
      rw [hb] at h1
      split at hev
      · rename_i s pos hC
        obtain ⟨q1, q2⟩ := next_op (nb := nb) (ty := o.type) h h1 hC
        split at hev
        · rename_i hp
          injection hev with hev
          subst hev
          exact runs_v (q1 hp)
        · rename_i hp
          obtain ⟨v, r1, r2⟩ := q2 hp
          exact runs_v ⟨v, w, r1, Out.of_some h hev r2⟩
      · cases hev
    · cases hev
  case h_24 c hop =>
    split at hev
    · rename_i hcal
      split at hev
      · rename_i x tt hargs hty
        have hargs : c.args = #[x] := by rw [← Array.toArray_toList (xs := c.args), hargs]
        have hty : c.argTypes = #[tt] := by rw [← Array.toArray_toList (xs := c.argTypes), hty]
        refine Runs.wp (Post := Out X keep w0 ι C w nb e) ?_ (fun v w' hv => ⟨v, rfl, hv⟩)
        unfold execOp
        rw [hop]
        have hx := hE x
        split at hev
        · rename_i s hk hs
          rw [hs, rel_str] at hx
          refine ⟨.int .i64 s.length, w, .inl ?_, Out.of_some h hev (rel_int.2 rfl)⟩
          simp [resolve, hcal, invoke, builtin, hargs, hty, Builtin.len_, run_und (kindOf_str hP hk), hx, goInt, size_mk]
        · rename_i hk hs
          rw [hs] at hx
          simp only [RelV] at hx
          refine ⟨.int .i64 0, w, .inl ?_, Out.of_some h hev (rel_int.2 rfl)⟩
          simp [resolve, hcal, invoke, builtin, hargs, hty, Builtin.len_, run_und (kindOf_mp hP hk), hx, goInt]
        · rename_i b hk hs
          rw [hs] at hx
          split at hev
          · rename_i kt va vt l hb
            obtain ⟨g, es, ck, l', g1, g2, g3, g4, g5, g6, g7⟩ := mapRel (P := P) h hx hb
            refine ⟨.int .i64 l.length, w, .inl ?_, Out.of_some h hev (rel_int.2 rfl)⟩
            have hl : es.size = l.length := by rw [← g4.length_eq, ← RzM_length g6, Array.length_toList]
            simp [resolve, hcal, invoke, builtin, hargs, hty, Builtin.len_, run_und (kindOf_mp hP hk), g2, g7, goInt, hl]
          · cases hev
        · rename_i e1 hk
          split at hev
          · rename_i n hl
            obtain ⟨A, m, cc, q1, q2⟩ := lenOf_sound h hx hl
            subst q2
            refine ⟨.int .i64 m, w, .inl ?_, Out.of_some h hev (rel_int.2 rfl)⟩
            simp [resolve, hcal, invoke, builtin, hargs, hty, Builtin.len_, run_und (kindOf_sl hP hk), q1, goInt]
          · cases hev
        · cases hev
      · cases hev
    · rename_i hcal
      split at hev
      · rename_i x y tt tt' hargs hty
        have hargs : c.args = #[x, y] := by rw [← Array.toArray_toList (xs := c.args), hargs]
        have hty : c.argTypes = #[tt, tt'] := by rw [← Array.toArray_toList (xs := c.argTypes), hty]
        split at hev
        · rename_i td htd
          split at hev
          · rename_i e1 hk
            split at hev
            · rename_i te hte
              split at hev
              · rename_i ty htye
                split at hev
                · rename_i hc
                  simp only [Bool.and_eq_true] at hc
                  obtain ⟨⟨c1, c2⟩, c3⟩ := hc
                  obtain rfl := Nat.eq_of_beq_eq_true c1
                  have c2 : 0 < ty.size := Nat.le_of_ble_eq_true c2
                  have c3 := Nat.le_of_ble_eq_true c3
                  split at hev
                  · rename_i ys f hel
                    refine Runs.wp (Post := Out X keep w0 ι C w nb e) ?_ (fun v w' hv => ⟨v, rfl, hv⟩)
                    unfold execOp
                    rw [hop]
                    have hx := hE x
                    have hap : ∀ (s : Value → World → Prop), (∃ v w', (Builtin.append_ #[tt, tt] o.type #[a.eval x, a.eval y]).run P w = .ok v w' ∧ s v w') → Runs P (do let d ← resolve a.eval c o.type; invoke d.target d.args) w s := by
                      rintro s ⟨v, w', r1, r2⟩
                      refine ⟨v, w', .inl ?_, r2⟩
                      simp [resolve, hcal, invoke, builtin, hargs, hty, r1]
                    split at hev
                    · rename_i hxn
                      split at hev
                      · rename_i hl
                        injection hev with hev
                        subst hev
                        rw [hxn] at hx
                        simp only [RelV] at hx
                        refine hap _ ?_
                        rw [hx]
                        exact append_nil_op hP h (hn nb (Nat.le_refl _) (by simp)) htd hk hte htye o.type c2 c3 (hE y) hel hl
                      · cases hev
                    · rename_i b hxb
                      rw [hxb] at hx
                      split at hev
                      · rename_i t e' xs hC
                        split at hev
                        · rename_i hq _
                          obtain ⟨hq⟩ := hq
                          subst hq
                          split at hev
                          · rename_i hcc
                            rw [Bool.and_eq_true] at hcc
                            obtain ⟨d1, d2⟩ := hcc
                            obtain rfl := Nat.eq_of_beq_eq_true d1
                            split at hev
                            · rename_i hl
                              injection hev with hev
                              subst hev
                              refine hap _ ?_
                              exact append_row_op hP h (hn nb (Nat.le_refl _) (by simp)) htd hk hte htye o.type c2 c3 hx hC (hE y) hel (by simpa using d2) hl
                            · cases hev
                          · cases hev
                        · cases hev
                      · cases hev
                    · cases hev
                  · cases hev
                · refine Runs.wp (Post := Out X keep w0 ι C w nb e) ?_ (fun v w' hv => ⟨v, rfl, hv⟩)
                  unfold execOp
                  rw [hop]
                  obtain ⟨v, w', r1, r2⟩ := appStr_op hP h htd hk hte o.type (hE x) (hE y) hev hn
                  refine ⟨v, w', .inl ?_, r2⟩
                  simp [resolve, hcal, invoke, builtin, hargs, hty, r1]
              · cases hev
            · cases hev
          · cases hev
        · cases hev
      · cases hev
    · rename_i hcal
      split at hev
      · rename_i x y tt tt' hargs hty
        have hargs : c.args = #[x, y] := by rw [← Array.toArray_toList (xs := c.args), hargs]
        have hty : c.argTypes = #[tt, tt'] := by rw [← Array.toArray_toList (xs := c.argTypes), hty]
        refine Runs.wp (Post := Out X keep w0 ι C w nb e) ?_ (fun v w' hv => ⟨v, rfl, hv⟩)
        unfold execOp
        rw [hop]
        have hev : copyOp TT tt C (ev T x) (ev T y) some = some e := hev
        obtain ⟨v, w', r1, r2⟩ := copyOp_op (nb := nb) hP h (hE x) (hE y) hev tt' o.type
        refine ⟨v, w', .inl ?_, r2⟩
        simp [resolve, hcal, invoke, builtin, hargs, hty, r1]
      · cases hev
    · rename_i hcal
      split at hev
      · rename_i x y hargs
        have hargs : c.args = #[x, y] := by rw [← Array.toArray_toList (xs := c.args), hargs]
        refine Runs.wp (Post := Out X keep w0 ι C w nb e) ?_ (fun v w' hv => ⟨v, rfl, hv⟩)
        unfold execOp
        rw [hop]
        have hx := hE x
        have hy := hE y
        split at hev
        · rename_i k i k' j h1 h2
          rw [h1, rel_int] at hx
          rw [h2, rel_int] at hy
          refine ⟨.int k (if j > i then j else i), w, .inl ?_, Out.of_some h hev (rel_int.2 (by unfold imax; rfl))⟩
          simp [resolve, hcal, invoke, builtin, hargs, Builtin.max_, Builtin.max2, hx, hy]
        · cases hev
      · cases hev
    · rename_i fo hcal
      split at hev
      · rename_i g cs hfn
        split at hev
        · rename_i co hco
          rcases hΔ g co hco with hok | hok
          · obtain ⟨fn, f1, f2, f3⟩ := hok.fn
            have hf := hE fo
            rw [hfn] at hf
            simp only [RelV] at hf
            obtain ⟨us, hu, hr⟩ := hf
            have hargs : RelL w (okb X w ι C) ι (c.args.toList.map (ev T) ++ cs) (c.args.toList.map a.eval ++ us) := RelL_append (RelL_map hT _) hr
            rw [hok.nat] at hev
            have hev : co (c.args.toList.map (ev T) ++ cs) C nb Eff some = some e := by
              cases hc : co (c.args.toList.map (ev T) ++ cs) C nb Eff some with
              | none => rw [hc] at hev; cases hev
              | some e' => rw [hc] at hev; exact hev
            have hrun := hok.run X keep w0 w ι C nb _ _ e h hargs hev hn
            have hexec : (execOp a.eval o).run P w = .ok (.enter g (c.args.toList.map a.eval ++ us).toArray) w := by
              unfold execOp
              rw [hop]
              have hname : ¬ fn.name = "runtime.NumGoroutine" := by simpa using f2
              have hb : ¬ fn.body = none := by
                intro hb
                rw [hb] at f3
                cases f3
              have harr : Array.map a.eval c.args ++ us.toArray = (List.map a.eval c.args.toList ++ us).toArray := by
                apply Array.ext'
                simp
              simp [resolve, hcal, hu, Deferred.ofValue, invoke, callFunc, f1, hname, hb, harr]
            unfold Oper.wp
            rw [hexec, Oper.upon_enter]
            refine hrun.mono ?_
            rintro en w' ⟨v, rfl, hv⟩
            exact ⟨v, rfl, hv⟩
          · have hf := hE fo
            rw [hfn] at hf
            simp only [RelV] at hf
            obtain ⟨us, hu, hr⟩ := hf
            have hargs : RelL w (okb X w ι C) ι (c.args.toList.map (ev T) ++ cs) (c.args.toList.map a.eval ++ us) := RelL_append (RelL_map hT _) hr
            rw [hok.nat] at hev
            have hev : co (c.args.toList.map (ev T) ++ cs) C nb Eff some = some e := by
              cases hc : co (c.args.toList.map (ev T) ++ cs) C nb Eff some with
              | none => rw [hc] at hev; cases hev
              | some e' => rw [hc] at hev; exact hev
            obtain ⟨v, w', r1, r2⟩ := hok.run X keep w0 w ι C nb _ _ e h hargs hev hn
            refine Runs.wp (Post := Out X keep w0 ι C w nb e) ?_ (fun v w' hv => ⟨v, rfl, hv⟩)
            refine ⟨v, w', .inl ?_, r2⟩
            unfold execOp
            rw [hop]
            have harr : Array.map a.eval c.args ++ us.toArray = (List.map a.eval c.args.toList ++ us).toArray := by
              apply Array.ext'
              simp
            simp [resolve, hcal, hu, Deferred.ofValue, invoke, harr, r1]
        · cases hev
      · rename_i g cs hfn
        split at hev
        · rename_i co hco
          rcases hΔ g co hco with hok | hok
          · obtain ⟨fn, f1, f2, f3⟩ := hok.fn
            have hf := hE fo
            rw [hfn] at hf
            simp only [RelV] at hf
            obtain ⟨us, hu, hr⟩ := hf
            have hargs : RelL w (okb X w ι C) ι (cs ++ c.args.toList.map (ev T)) (us ++ c.args.toList.map a.eval) := RelL_append hr (RelL_map hT _)
            rw [hok.nat] at hev
            have hev : co (cs ++ c.args.toList.map (ev T)) C nb Eff some = some e := by
              cases hc : co (cs ++ c.args.toList.map (ev T)) C nb Eff some with
              | none => rw [hc] at hev; cases hev
              | some e' => rw [hc] at hev; exact hev
            have hrun := hok.run X keep w0 w ι C nb _ _ e h hargs hev hn
            have hexec : (execOp a.eval o).run P w = .ok (.enter g (us ++ c.args.toList.map a.eval).toArray) w := by
              unfold execOp
              rw [hop]
              have hname : ¬ fn.name = "runtime.NumGoroutine" := by simpa using f2
              have hb : ¬ fn.body = none := by
                intro hb
                rw [hb] at f3
                cases f3
              have harr : us.toArray ++ Array.map a.eval c.args = (us ++ List.map a.eval c.args.toList).toArray := by
                apply Array.ext'
                simp
              simp [resolve, hcal, hu, Deferred.ofValue, invoke, callFunc, f1, hname, hb, harr]
            unfold Oper.wp
            rw [hexec, Oper.upon_enter]
            refine hrun.mono ?_
            rintro en w' ⟨v, rfl, hv⟩
            exact ⟨v, rfl, hv⟩
          · have hf := hE fo
            rw [hfn] at hf
            simp only [RelV] at hf
            obtain ⟨us, hu, hr⟩ := hf
            have hargs : RelL w (okb X w ι C) ι (cs ++ c.args.toList.map (ev T)) (us ++ c.args.toList.map a.eval) := RelL_append hr (RelL_map hT _)
            rw [hok.nat] at hev
            have hev : co (cs ++ c.args.toList.map (ev T)) C nb Eff some = some e := by
              cases hc : co (cs ++ c.args.toList.map (ev T)) C nb Eff some with
              | none => rw [hc] at hev; cases hev
              | some e' => rw [hc] at hev; exact hev
            obtain ⟨v, w', r1, r2⟩ := hok.run X keep w0 w ι C nb _ _ e h hargs hev hn
            refine Runs.wp (Post := Out X keep w0 ι C w nb e) ?_ (fun v w' hv => ⟨v, rfl, hv⟩)
            refine ⟨v, w', .inl ?_, r2⟩
            unfold execOp
            rw [hop]
            have harr : us.toArray ++ Array.map a.eval c.args = (us ++ List.map a.eval c.args.toList).toArray := by
              apply Array.ext'
              simp
            simp [resolve, hcal, hu, Deferred.ofValue, invoke, harr, r1]
        · cases hev
      · cases hev
    · rename_i hcal
      split at hev
      · rename_i x y tt tt' hargs hty
        have hargs : c.args = #[x, y] := by rw [← Array.toArray_toList (xs := c.args), hargs]
        have hty : c.argTypes = #[tt, tt'] := by rw [← Array.toArray_toList (xs := c.argTypes), hty]
        refine Runs.wp (Post := Out X keep w0 ι C w nb e) ?_ (fun v w' hv => ⟨v, rfl, hv⟩)
        unfold execOp
        rw [hop]
        have hev : mapDel TT tt C (ev T x) (ev T y) some = some e := hev
        obtain ⟨w', r1, r2⟩ := del_op (nb := nb) (ty := o.type) (ts := c.argTypes) hP h (hE x) (hE y) hev (by rw [hty]; rfl)
        refine ⟨.tuple #[], w', .inl ?_, r2⟩
        simp [resolve, hcal, invoke, builtin, hargs, r1]
      · cases hev
    · rename_i hcal
      split at hev
      · rename_i x hargs
        have hargs : c.args = #[x] := by rw [← Array.toArray_toList (xs := c.args), hargs]
        refine Runs.wp (Post := Out X keep w0 ι C w nb e) ?_ (fun v w' hv => ⟨v, rfl, hv⟩)
        unfold execOp
        rw [hop]
        have hev : ∃ r, sdata C (ev T x) some = some r ∧ (some (⟨r, [], []⟩ : Eff)) = some e := by
          rw [sdata_nat C (ev T x) (fun r => some (⟨r, [], []⟩ : Eff))] at hev
          cases hb : sdata C (ev T x) some with
          | none => rw [hb] at hev; cases hev
          | some r => rw [hb] at hev; exact ⟨r, rfl, hev⟩
        obtain ⟨r, h1, h2⟩ := hev
        obtain ⟨v, r1, r2⟩ := sdata_op (P := P) h (hE x) h1 c.argTypes o.type
        refine ⟨v, w, .inl ?_, Out.of_some h h2 r2⟩
        simp [resolve, hcal, invoke, builtin, hargs, r1]
      · cases hev
    · rename_i hcal
      split at hev
      · rename_i x y tt tt' hargs hty
        have hargs : c.args = #[x, y] := by rw [← Array.toArray_toList (xs := c.args), hargs]
        have hty : c.argTypes = #[tt, tt'] := by rw [← Array.toArray_toList (xs := c.argTypes), hty]
        refine Runs.wp (Post := Out X keep w0 ι C w nb e) ?_ (fun v w' hv => ⟨v, rfl, hv⟩)
        unfold execOp
        rw [hop]
        have hev : ustr TT tt C (ev T x) (ev T y) some = some e := hev
        obtain ⟨v, w', r1, r2⟩ := ustr_op (nb := nb) hP h (hE x) (hE y) hev tt' o.type
        refine ⟨v, w', .inl ?_, r2⟩
        simp [resolve, hcal, invoke, builtin, hargs, hty, r1]
      · cases hev
    · cases hev
  case h_25 tt r hop =>
    refine Runs.wp (Post := Out X keep w0 ι C w nb e) ?_ (fun v w' hv => ⟨v, rfl, hv⟩)
    unfold execOp
    rw [hop]
    split at hev
    · rename_i kt va vt hm
      obtain ⟨hk, k, et, te, hu, _⟩ := mapTy_sound hP hm
      split at hev
      · rename_i hr
        injection hev with hev
        subst hev
        refine runs_v (makeMap_op h (hn nb (Nat.le_refl _) (by simp)) hk hu fun v hv => ?_)
        cases r with
        | none => cases hv
        | some x =>
          unfold mapRoom at hr
          simp only at hr
          injection hv with hv
          subst hv
          split at hr
          · rename_i k n hx
            have := hE x
            rw [hx] at this
            exact ⟨_, _, rel_int.1 this⟩
          · cases hr
      · cases hev
    · cases hev
  case h_26 tt x ix comma hop =>
    refine Runs.wp (Post := Out X keep w0 ι C w nb e) ?_ (fun v w' hv => ⟨v, rfl, hv⟩)
    unfold execOp
    rw [hop]
    have hev : ∃ r, mapLook TT tt C (ev T x) (ev T ix) comma some = some r ∧ (some (⟨r, [], []⟩ : Eff)) = some e := by
      rw [mapLook_nat tt C (ev T x) (ev T ix) comma (fun r => some (⟨r, [], []⟩ : Eff))] at hev
      cases hb : mapLook TT tt C (ev T x) (ev T ix) comma some with
      | none => rw [hb] at hev; cases hev
      | some r => rw [hb] at hev; exact ⟨r, rfl, hev⟩
    obtain ⟨r, h1, h2⟩ := hev
    obtain ⟨v, r1, r2⟩ := look_op hP h (hE x) (hE ix) h1
    exact runs_v ⟨v, w, r1, Out.of_some h h2 r2⟩
  case h_27 tt m k x hop =>
    refine Runs.wp (Post := Out X keep w0 ι C w nb e) ?_ (fun v w' hv => ⟨v, rfl, hv⟩)
    unfold execOp
    rw [hop]
    exact runs_u (set_op hP h (hE m) (hE k) (hE x) hev)
  case h_28 tt m k x hop =>
    refine Runs.wp (Post := Out X keep w0 ι C w nb e) ?_ (fun v w' hv => ⟨v, rfl, hv⟩)
    unfold execOp
    rw [hop]
    exact runs_u (set_op hP h (hE m) (hE k) (hE x) hev)
  all_goals cases hev
end
end Go.Proofs.Rf
/- Rf, part l: regions in the text's order. -/
namespace Go.Proofs.Rf
open Go Go.RowKit

/-- No fence; in a round of a loop over a function (ρ), or in none. -/
def WF (ρ : Option Nat) : Fence := { fn := fun _ => True, depth := none, alive := false, round := ρ }

theorem wpIn_of_wp {P : Program} {ρ : Option Nat} {d : Nat} {o : Oper} {a : Act} {w : World} {K : Act → World → Prop} {Q : Exit → Act → World → Prop} (hd : ∀ c, o.op ≠ .defer c) (h : o.wp P a w K Q) : o.wpIn (WF ρ) d P a w K Q := by
  refine ⟨fun _ _ => trivial, ?_⟩
  rw [Oper.semAt_eq _ _ _ hd]
  unfold Oper.wp at h
  have hn : (WF ρ).depth.isSome = true → 1 ≤ d := fun h => by cases h
  generalize (execOp a.eval o).run P w = r at *
  cases r with
  | ok x w' =>
    cases x <;> simp only [Oper.upon, Oper.uponIn] at h ⊢
    case value v => exact h
    case skip => exact h
    case defer q => exact h
    case enter f args => exact ⟨hn, callsIn_wide.2 h⟩
    case row row args =>
      refine ⟨hn, fun c cs _ => ?_⟩
      obtain ⟨v, w'', h1, h2⟩ := h c cs
      exact ⟨v, w'', h1, stepsIn_wide.2 h2⟩
  | halt x w' => cases x <;> simp only [Oper.upon, Oper.uponIn] at h ⊢ <;> exact h

/-- The slots of a frame: which ones are written, what is kept of the rest; how it is left. -/
structure Slots where
  marks : Bool
  base : Nat
  ok : Nat → Bool
  G : Array Value → Prop
  lt : ∀ tm d, G tm → ok d = true → d < tm.size
  set : ∀ tm d v, G tm → ok d = true → G (tm.setIfInBounds d v)

/-- Deferred are marks alone, whose blocks are kept. -/
def MarksOK (base : Nat) (keep : Nat → Prop) (w0 : World) : List Deferred → Prop
  | [] => True
  | d :: ds => (∃ D, d.target = .collected D ∧ base ≤ D ∧ keep D ∧ w0.heap[D]? = some (.deferred (some [])) ∧ ∀ e ∈ ds, e.target ≠ .collected D) ∧ MarksOK base keep w0 ds

section
variable {X keep : Nat → Prop} {w0 w : World} {ι : Nat → Option Value} {C : Nat → Blk} {P : Program} {TT : Tab} {Δ : Nat → Option CallO} {n : Slots}

theorem evOp_nat (hΔ : CallsOK P Δ) {R : Type} (o : Oper) (T : Nat → AV) (C : Nat → Blk) (nb : Nat) (K : Eff → Option R) : evOp TT Δ o T C nb K = (evOp TT Δ o T C nb some).bind K := by
  have hb : ∀ {x : Option AV} {L : Option R} {M : Option Eff}, L = x.bind (fun a => K ⟨a, [], []⟩) → M = x.bind (fun a => some ⟨a, [], []⟩) → L = M.bind K := by
    rintro x L M rfl rfl
    cases x <;> rfl
  unfold evOp
  split
  case h_5 e0 x hop =>
    split
    · split
      · split <;> rfl
      · rfl
    · split <;> rfl
  case h_10 x hop =>
    split <;> first | rfl | (split <;> rfl)
  case h_11 op tt x y yt hop =>
    split
    · rfl
    · exact hb (bin_nat ..) (bin_nat ..)
  case h_12 op xt x hop =>
    exact hb (uny_nat ..) (uny_nat ..)
  case h_13 src dst x hop =>
    split
    · split <;> rfl
    · split
      · split <;> rfl
      · exact hb (unsf_nat ..) (unsf_nat ..)
    · rfl
  case h_15 tt x lo hi hop =>
    exact hb (sliceOp_nat ..) (sliceOp_nat ..)
  case h_18 tt x ix hop =>
    repeat' split
    all_goals first
      | rfl
      | exact hb (idxAV_nat ..) (idxAV_nat ..)
      | exact hb (chain_nat ..) (chain_nat ..)
      | exact hb (chainV_nat ..) (chainV_nat ..)
  case h_19 tt x ix hop =>
    repeat' split
    all_goals first
      | rfl
      | exact hb (chainA_nat ..) (chainA_nat ..)
  case h_24 c hop =>
    split
    · repeat' split
      all_goals rfl
    · repeat' split
      all_goals first | rfl | exact appStr_nat ..
    · split
      · exact copyOp_nat ..
      · rfl
    · repeat' split
      all_goals rfl
    · split
      · split
        · rename_i co hco
          exact (hΔ _ co hco).nat ..
        · rfl
      · split
        · rename_i co hco
          exact (hΔ _ co hco).nat ..
        · rfl
      · rfl
    · split
      · exact mapDel_nat ..
      · rfl
    · split
      · exact hb (sdata_nat ..) (sdata_nat ..)
      · rfl
    · split
      · exact ustr_nat ..
      · rfl
    · rfl
  case h_26 tt x ix comma hop =>
    exact hb (mapLook_nat ..) (mapLook_nat ..)
  case h_27 tt m k x hop =>
    exact mapSet_nat ..
  case h_28 tt m k x hop =>
    exact mapSet_nat ..
  all_goals ((repeat' split) <;> rfl)

/-! ### Blocks as a list, and as a function -/
theorem setB_length : ∀ (bl : List Blk) (k : Nat) (b : Blk), (setB bl k b).length = bl.length
  | [], _, _ => rfl
  | _ :: _, 0, _ => rfl
  | _ :: r, k + 1, b => by simp [setB, setB_length r k b]

theorem getB_setB : ∀ (bl : List Blk) (k : Nat) (b : Blk), k < bl.length → getB (setB bl k b) = setC (getB bl) k b
  | [], k, _, h => by simp at h
  | c :: r, 0, b, _ => by
    funext j
    cases j with
    | zero => simp [setB, getB, setC]
    | succ j => simp [setB, getB, setC]
  | c :: r, k + 1, b, h => by
    funext j
    have ih := getB_setB r k b (by simpa using h)
    cases j with
    | zero => simp [setB, getB, setC]
    | succ j =>
      have := congrFun ih j
      simp only [setB, getB, setC, Nat.add_right_cancel_iff] at this ⊢
      exact this

theorem updB_length : ∀ (u : List (Nat × Blk)) (bl : List Blk), (updB bl u).length = bl.length
  | [], _ => rfl
  | (k, b) :: r, bl => by
    show (updB (setB bl k b) r).length = _
    rw [updB_length r, setB_length]

theorem getB_updB : ∀ (u : List (Nat × Blk)) (bl : List Blk), updLt bl.length u = true → getB (updB bl u) = updC (getB bl) u
  | [], _, _ => rfl
  | (k, b) :: r, bl, h => by
    simp only [updLt, Bool.and_eq_true] at h
    have hk : k < bl.length := Nat.le_of_ble_eq_true h.1
    show getB (updB (setB bl k b) r) = updC (setC (getB bl) k b) r
    rw [getB_updB r _ (by rw [setB_length]; exact h.2), getB_setB _ _ _ hk]

theorem getB_out : ∀ (bl : List Blk) (k : Nat), bl.length ≤ k → getB bl k = .dead
  | [], _, _ => rfl
  | _ :: r, 0, h => by simp at h
  | _ :: r, k + 1, h => getB_out r k (by simpa using h)

theorem getB_append1 : ∀ (bl : List Blk) (b : Blk), getB (bl ++ [b]) = setC (getB bl) bl.length b
  | [], b => by
    funext j
    cases j with
    | zero => rfl
    | succ j => simp [getB, setC]
  | c :: r, b => by
    funext j
    have ih := getB_append1 r b
    cases j with
    | zero => simp [getB, setC]
    | succ j =>
      have := congrFun ih j
      simp only [List.cons_append, getB, setC, List.length_cons, Nat.add_right_cancel_iff] at this ⊢
      exact this

theorem getB_append : ∀ (new bl : List Blk), getB (bl ++ new) = addC (getB bl) bl.length new
  | [], bl => by rw [List.append_nil]; rfl
  | b :: r, bl => by
    show getB (bl ++ b :: r) = addC (setC (getB bl) bl.length b) (bl.length + 1) r
    rw [← getB_append1, show bl ++ b :: r = (bl ++ [b]) ++ r by simp, getB_append r, List.length_append]
    rfl

theorem getB_eff {bl : List Blk} {e : Eff} (h : updLt bl.length e.upd = true) : getB (updB bl e.upd ++ e.new) = effC (getB bl) bl.length e := by
  rw [getB_append, updB_length, getB_updB _ _ h]; rfl

def effT (T : Nat → AV) (dst : Option Nat) (x : AV) : Nat → AV := fun t => if dst = some t then x else T t

structure FRel (X keep : Nat → Prop) (w0 : World) (n : Slots) (ι : Nat → Option Value) (T : Nat → AV) (C : Nat → Blk) (a : Act) (w : World) : Prop where
  h : HRel X keep w0 ι C w
  tm : ∀ t, RelV w (okb X w ι C) ι (T t) (a.tmps.getD t undef)
  size : n.G a.tmps
  defers : n.base ≤ w0.heap.size ∧ (n.marks = false → a.defers = []) ∧ MarksOK n.base keep w0 a.defers

theorem put_getD {a : Act} {dst : Option Nat} {v : Value} (h : ∀ d, dst = some d → d < a.tmps.size) (t : Nat) : (a.put dst v).tmps.getD t undef = if dst = some t then v else a.tmps.getD t undef := by
  cases dst with
  | none => simp [Act.put]
  | some d =>
    have hd := h d rfl
    by_cases ht : d = t
    · subst ht
      simp [Act.put, hd]
    · have : ¬ (some d = some t) := fun e => ht (by injection e)
      rw [if_neg this]
      simp [Act.put, Array.getD_eq_getD_getElem?, Array.getElem?_setIfInBounds_ne ht]

theorem put_defers (a : Act) (dst : Option Nat) (v : Value) : (a.put dst v).defers = a.defers := by cases dst <;> rfl

theorem FRel.step {T : Nat → AV} {a : Act} {ι' : Nat → Option Value} {C' : Nat → Blk} {w' : World} (h : FRel X keep w0 n ι T C a w) {dst : Option Nat} (hd : ∀ d, dst = some d → n.ok d = true) {x : AV} {v : Value}
    (h1 : HRel X keep w0 ι' C' w') (h2 : Ext X ι C w ι' C' w') (h3 : RelV w' (okb X w' ι' C') ι' x v) : FRel X keep w0 n ι' (effT T dst x) C' (a.put dst v) w' := by
  have hG : n.G (a.put dst v).tmps := by
    cases dst with
    | none => exact h.size
    | some d => exact n.set _ _ _ h.size (hd d rfl)
  refine ⟨h1, fun t => ?_, hG, by rw [put_defers]; exact h.defers⟩
  rw [put_getD (fun d hdd => n.lt _ _ h.size (hd d hdd))]
  unfold effT
  split
  · exact h3
  · exact h2.val (h.tm t)

/-- A draw of the order changes nothing that is told. -/
theorem FRel.drawn {T : Nat → AV} {a : Act} (h : FRel X keep w0 n ι T C a w) (k : Nat) : FRel X keep w0 n ι T C a { w with drawn := k } := by
  have hc : ∀ p, ({ w with drawn := k } : World).cell? p = w.cell? p := fun _ => rfl
  have hext : Ext X ι C w ι C { w with drawn := k } := ⟨fun _ _ e => e, fun _ e => e, fun _ _ => rfl⟩
  refine ⟨⟨fun j => RelB_keep hext j (h.h.bl j) rfl (fun _ _ => rfl), h.h.inj, ⟨h.h.fr.os, h.h.fr.tape, h.h.fr.output, h.h.fr.size, h.h.fr.block⟩, h.h.own, h.h.kl, h.h.ox, h.h.xl, h.h.gl.ext hext⟩, fun t => hext.val (h.tm t), h.size, h.defers⟩

structure SRel (X keep : Nat → Prop) (w0 : World) (n : Slots) (ι : Nat → Option Value) (s : St) (a : Act) (w : World) : Prop where
  f : FRel X keep w0 n ι (getT s.tm) (getB s.bl) a w
  dom : ∀ k, s.bl.length ≤ k → ι k = none

theorem getT_cons (d : Nat) (x : AV) (tm : List (Nat × AV)) : getT ((d, x) :: tm) = effT (getT tm) (some d) x := by
  funext t
  show (if Nat.beq d t = true then x else getT tm t) = if some d = some t then x else getT tm t
  by_cases h : d = t
  · subst h
    rw [if_pos rfl, if_pos (Nat.beq_refl d)]
  · rw [if_neg (fun e => h (Nat.eq_of_beq_eq_true e)), if_neg (fun e => h (by injection e))]

theorem dstOk_lt {o : Oper} (h : dstOk n.ok o = true) : ∀ d, o.dst = some d → n.ok d = true := by
  intro d hd
  unfold dstOk at h
  rw [hd] at h
  exact h

theorem stepE_tm (o : Oper) (s : St) (e : Eff) : getT (stepE o s e).tm = effT (getT s.tm) o.dst e.dst := by
  unfold stepE
  cases o.dst with
  | none => funext t; simp [effT]
  | some d => exact getT_cons d e.dst s.tm
theorem stepE_bl (o : Oper) (s : St) (e : Eff) : (stepE o s e).bl = updB s.bl e.upd ++ e.new := by unfold stepE; cases o.dst <;> rfl
theorem stepS_tm (o : Oper) (s : St) : getT (stepS o s).tm = effT (getT s.tm) o.dst .ud := by
  unfold stepS
  cases o.dst with
  | none => funext t; simp [effT]
  | some d => exact getT_cons d .ud s.tm
theorem stepS_bl (o : Oper) (s : St) : (stepS o s).bl = s.bl := by unfold stepS; cases o.dst <;> rfl

/-- An operation that is carried out, in the text's order. -/
theorem SRel.run (hP : TabOK P TT) (hΔ : CallsOK P Δ) {s : St} {a : Act} (h : SRel X keep w0 n ι s a w) {o : Oper} (hd : dstOk n.ok o = true) {e : Eff}
    (hev : evOp TT Δ o (getT s.tm) (getB s.bl) s.bl.length some = some e) (hu : updLt s.bl.length e.upd = true) {K : Act → World → Prop} {Q : Exit → Act → World → Prop}
    (hK : ∀ ι' a' w', SRel X keep w0 n ι' (stepE o s e) a' w' → K a' w') : o.wp P a w K Q := by
  refine Oper.wp_mono ?_ (evOp_sound hP hΔ h.f.h h.f.tm hev (fun k hk _ => h.dom k hk) (Q := Q))
  rintro a' w' ⟨v, rfl, ι', h1, h2, h3, h4⟩
  refine hK ι' _ w' ⟨?_, fun k hk => ?_⟩
  · have := h.f.step (dstOk_lt hd) h1 h2 h3
    rw [stepE_tm, stepE_bl, getB_eff hu]
    exact this
  · rw [stepE_bl, List.length_append, updB_length] at hk
    rw [h4 k (by omega)]
    exact h.dom k (by omega)

theorem SRel.skip {s : St} {a : Act} (h : SRel X keep w0 n ι s a w) {o : Oper} (hd : dstOk n.ok o = true) : SRel X keep w0 n ι (stepS o s) (a.put o.dst undef) w := by
  refine ⟨?_, fun k hk => ?_⟩
  · rw [stepS_tm, stepS_bl]
    exact h.f.step (dstOk_lt hd) h.f.h (Ext.refl _ _ _ _) (by simp only [RelV])
  · rw [stepS_bl] at hk
    exact h.dom k hk

theorem yielded_bool {ops : Array Oper} {a : Act} {j g : Nat} (hg : (ops[j]?).bind (·.dst) = some g) {b : Bool} (hv : a.tmps.getD g undef = .bool b) : yielded ops a.tmps j = some b := by
  unfold yielded
  rw [hg]
  have : a.tmps[g]? = some (.bool b) := by
    rw [Array.getD_eq_getD_getElem?] at hv
    cases hq : a.tmps[g]? with
    | none => rw [hq] at hv; cases hv
    | some u => rw [hq] at hv; rw [← hv]; rfl
  simp [this]

theorem yielded_ud {ops : Array Oper} {a : Act} {j g : Nat} (hg : (ops[j]?).bind (·.dst) = some g) (hv : a.tmps.getD g undef = undef) : yielded ops a.tmps j = none := by
  unfold yielded
  rw [hg]
  show (match a.tmps[g]? with | some (.bool b) => some b | _ => none) = none
  rw [Array.getD_eq_getD_getElem?] at hv
  cases hq : a.tmps[g]? with
  | none => rfl
  | some u => rw [hq] at hv; rw [show u = undef from hv]; rfl

/-- A test that is decided: the state tells the same. -/
theorem SRel.known {s : St} {a : Act} (h : SRel X keep w0 n ι s a w) {g : Nat} {b : Bool} (hg : getT s.tm g = .d .bool b) : SRel X keep w0 n ι ⟨(g, .d .bool b) :: s.tm, s.bl⟩ a w := by
  refine ⟨?_, h.dom⟩
  have : getT ((g, .d .bool b) :: s.tm) = getT s.tm := by
    rw [getT_cons]
    funext t
    unfold effT
    split
    · rename_i e
      injection e with e
      subst e
      exact hg.symm
    · rfl
  rw [this]
  exact h.f

theorem evOpD_false {R : Type} (o : Oper) (s : St) (K : Eff → Option R) : evOpD TT Δ false o s K = evOp TT Δ o (getT s.tm) (getB s.bl) s.bl.length K := rfl

theorem bind_some' {α β : Type} {x : Option α} {f : α → Option β} {r : β} (h : x.bind f = some r) : ∃ y, x = some y ∧ f y = some r := by
  cases x with
  | none => cases h
  | some y => exact ⟨y, rfl, h⟩

theorem evOp_no_defer {R : Type} {o : Oper} {T : Nat → AV} {C : Nat → Blk} {nb : Nat} {K : Eff → Option R} {r : R} (h : evOp TT Δ o T C nb K = some r) : ∀ c, o.op ≠ .defer c := by
  intro c hc
  unfold evOp at h
  rw [hc] at h
  cases h

/-- A region in the text's order. -/
theorem evOps_seq (hP : TabOK P TT) (hΔ : CallsOK P Δ) {ρ : Option Nat} {dp : Nat} {R : Type} {ops : Array Oper} {Q : Exit → Act → World → Prop} {r : R} {K : St → List LogE → Option R} : ∀ (l : List (Nat × Oper)) (s : St) (lg : List LogE) (a : Act) (w : World) (ι : Nat → Option Value),
    (∀ p ∈ l, ops[p.1]? = some p.2) → evOps TT Δ n.ok ops false l s lg K = some r → SRel X keep w0 n ι s a w → (∀ s' lg' a' w' ι', K s' lg' = some r → SRel X keep w0 n ι' s' a' w' → Q .normal a' w') → wpOpsIn (WF ρ) dp P ops Q (l.map (·.1)) a w
  | [], s, lg, a, w, ι, _, hev, h, hQ => hQ s lg a w ι hev h
  | (i, o) :: rest, s, lg, a, w, ι, hl, hev, h, hQ => by
    have hi : ops[i]? = some o := hl (i, o) (List.mem_cons_self ..)
    have hrest := fun p hp => hl p (List.mem_cons_of_mem _ hp)
    simp only [evOps] at hev
    split at hev
    · rename_i hd
      have hrun : ∀ (s : St) (a : Act) (w : World) (ι : Nat → Option Value), SRel X keep w0 n ι s a w → (evOpD TT Δ false o s fun e => if updLt s.bl.length e.upd = true then evOps TT Δ n.ok ops false rest (stepE o s e) (logOf i o s e :: lg) K else none) = some r →
          Region.wanted o (yielded ops a.tmps) = true → wpOpsIn (WF ρ) dp P ops Q (((i, o) :: rest).map (·.1)) a w := by
        intro s a w ι h hev hw
        rw [evOpD_false, evOp_nat hΔ] at hev
        obtain ⟨e, he, hev⟩ := bind_some' hev
        split at hev
        · rename_i hu
          rw [List.map_cons, wpOpsIn_cons]
          unfold wpOpIn
          rw [hi]
          simp only [hw, if_true]
          refine wpIn_of_wp (evOp_no_defer he) (h.run hP hΔ hd he hu fun ι' a' w' h' => ?_)
          exact evOps_seq hP hΔ rest _ _ a' w' ι' hrest hev h' hQ
        · cases hev
      have hskip : ∀ (s : St) (a : Act) (w : World) (ι : Nat → Option Value), SRel X keep w0 n ι s a w → evOps TT Δ n.ok ops false rest (stepS o s) lg K = some r → Region.wanted o (yielded ops a.tmps) = false → wpOpsIn (WF ρ) dp P ops Q (((i, o) :: rest).map (·.1)) a w := by
        intro s a w ι h hev hw
        rw [List.map_cons, wpOpsIn_cons]
        unfold wpOpIn
        rw [hi]
        simp only [hw]
        exact ⟨fun _ _ => trivial, evOps_seq hP hΔ rest _ _ _ w ι hrest hev (h.skip hd) hQ⟩
      split at hev
      · rename_i hg
        exact hrun s a w ι h hev (by simp [Region.wanted, hg])
      · rename_i j want hg
        split at hev
        · cases hev
        · rename_i g hgd
          have htm := h.f.tm g
          split at hev
          · rename_i b hb
            rw [hb, rel_bool] at htm
            have hy := yielded_bool hgd htm
            have hw : Region.wanted o (yielded ops a.tmps) = (b == want) := by
              unfold Region.wanted
              rw [hg]
              simp only [hy]
              cases b <;> cases want <;> rfl
            have hk := h.known hb
            split at hev
            · rename_i hbt
              subst hbt
              split at hev
              · rename_i hwt
                subst hwt
                exact hrun _ a w ι hk hev (by rw [hw]; rfl)
              · rename_i hwt
                have hwt : want = false := by simpa using hwt
                subst hwt
                exact hskip _ a w ι hk hev (by rw [hw]; rfl)
            · rename_i hbt
              have hbt : b = false := by simpa using hbt
              subst hbt
              split at hev
              · rename_i hwt
                subst hwt
                exact hskip _ a w ι hk hev (by rw [hw]; rfl)
              · rename_i hwt
                have hwt : want = false := by simpa using hwt
                subst hwt
                exact hrun _ a w ι hk hev (by rw [hw]; rfl)
          · rename_i hb
            rw [hb] at htm
            simp only [RelV] at htm
            have hy := yielded_ud hgd htm
            exact hskip s a w ι h hev (by unfold Region.wanted; rw [hg]; simp [hy])
          · cases hev
    · cases hev
end
end Go.Proofs.Rf
/- Rf, part m: an operation over what it names alone: all else is as it was. -/
namespace Go.Proofs.Rf
open Go Go.RowKit

theorem memN_iff {k : Nat} : ∀ {l : List Nat}, memN k l = true ↔ k ∈ l
  | [] => by simp [memN]
  | j :: r => by
    simp only [memN, Bool.or_eq_true, List.mem_cons, memN_iff (l := r)]
    constructor
    · rintro (h | h)
      · exact .inl (Nat.eq_of_beq_eq_true h).symm
      · exact .inr h
    · rintro (h | h)
      · subst h; exact .inl (Nat.beq_refl _)
      · exact .inr h

theorem updC_other : ∀ (u : List (Nat × Blk)) (C : Nat → Blk) (k : Nat), k ∉ updIds u → updC C u k = C k
  | [], _, _, _ => rfl
  | (j, b) :: r, C, k, h => by
    simp only [updIds, List.mem_cons, not_or] at h
    show updC (setC C j b) r k = C k
    rw [updC_other r _ k h.2, setC_ne h.1]

theorem updC_congr : ∀ (u : List (Nat × Blk)) (C C' : Nat → Blk) (k : Nat), (C k = C' k ∨ k ∈ updIds u) → updC C u k = updC C' u k
  | [], _, _, _, h => h.resolve_right (by simp [updIds])
  | (j, b) :: r, C, C', k, h => by
    show updC (setC C j b) r k = updC (setC C' j b) r k
    apply updC_congr
    by_cases hk : k = j
    · subst hk; left; rw [setC_self, setC_self]
    · rw [setC_ne hk, setC_ne hk]
      refine h.imp id fun h => ?_
      simp only [updIds, List.mem_cons] at h
      exact h.resolve_left hk

theorem addC_other : ∀ (new : List Blk) (C : Nat → Blk) (nb k : Nat), ¬ (nb ≤ k ∧ k < nb + new.length) → addC C nb new k = C k
  | [], _, _, _, _ => rfl
  | b :: r, C, nb, k, h => by
    show addC (setC C nb b) (nb + 1) r k = C k
    simp only [List.length_cons] at h
    rw [addC_other r _ _ k (by omega), setC_ne (by omega)]

theorem addC_congr : ∀ (new : List Blk) (C C' : Nat → Blk) (nb k : Nat), (C k = C' k ∨ (nb ≤ k ∧ k < nb + new.length)) → addC C nb new k = addC C' nb new k
  | [], _, _, nb, k, h => h.resolve_right (by simp)
  | b :: r, C, C', nb, k, h => by
    show addC (setC C nb b) (nb + 1) r k = addC (setC C' nb b) (nb + 1) r k
    apply addC_congr
    by_cases hk : k = nb
    · subst hk; left; rw [setC_self, setC_self]
    · rw [setC_ne hk, setC_ne hk]
      simp only [List.length_cons] at h
      exact h.imp id fun h => by omega

/-- The blocks that an effect writes. -/
def wrote (nb : Nat) (e : Eff) (k : Nat) : Prop := k ∈ updIds e.upd ∨ (nb ≤ k ∧ k < nb + e.new.length)

theorem effC_other {C : Nat → Blk} {nb : Nat} {e : Eff} {k : Nat} (h : ¬ wrote nb e k) : effC C nb e k = C k := by
  unfold effC
  rw [addC_other _ _ _ _ (fun q => h (.inr q)), updC_other _ _ _ (fun q => h (.inl q))]

theorem effC_congr {C C' : Nat → Blk} {nb : Nat} {e : Eff} {k : Nat} (h : C k = C' k ∨ wrote nb e k) : effC C nb e k = effC C' nb e k := by
  unfold effC
  apply addC_congr
  rcases h with h | h | h
  · exact .inl (updC_congr _ _ _ _ (.inl h))
  · exact .inl (updC_congr _ _ _ _ (.inr h))
  · exact .inr h

section
variable {X keep : Nat → Prop} {w0 w : World} {ι : Nat → Option Value} {C : Nat → Blk} {P : Program} {TT : Tab} {Δ : Nat → Option CallO} {n : Slots}

theorem bk_dead {ι : Nat → Option Value} {C : Nat → Blk} {k : Nat} (h : C k = .dead) : bk ι C k = none := by unfold bk; rw [h]

/-- Blocks that the operation doesn't name: foreign to it. -/
def Foreign (X : Nat → Prop) (ι : Nat → Option Value) (C : Nat → Blk) (m : List Nat) (b : Nat) : Prop := X b ∨ ∃ k, k ∉ m ∧ bk ι C k = some b

theorem resC_in {m : List Nat} {C : Nat → Blk} {k : Nat} (h : k ∈ m) : resC m C k = C k := by unfold resC; rw [if_pos (memN_iff.2 h)]
theorem resC_out {m : List Nat} {C : Nat → Blk} {k : Nat} (h : k ∉ m) : resC m C k = .dead := by unfold resC; rw [if_neg (fun q => h (memN_iff.1 q))]

theorem owned_res {m : List Nat} {b : Nat} : owned ι (resC m C) b ↔ ∃ k, k ∈ m ∧ bk ι C k = some b := by
  constructor
  · rintro ⟨k, hk⟩
    by_cases hm : k ∈ m
    · exact ⟨k, hm, by rw [← hk]; exact (bk_congr (resC_in hm) rfl).symm⟩
    · rw [bk_dead (resC_out hm)] at hk; cases hk
  · rintro ⟨k, hm, hk⟩
    exact ⟨k, by rw [← hk]; exact bk_congr (resC_in hm) rfl⟩

theorem okb_res (m : List Nat) (b : Nat) : okb (Foreign X ι C m) w ι (resC m C) b ↔ okb X w ι C b := by
  constructor
  · rintro ⟨h1, h2, h3⟩
    refine ⟨h1, fun ⟨k, hk⟩ => ?_, fun hx => h3 (.inl hx)⟩
    by_cases hm : k ∈ m
    · exact h2 (owned_res.2 ⟨k, hm, hk⟩)
    · exact h3 (.inr ⟨k, hm, hk⟩)
  · rintro ⟨h1, h2, h3⟩
    refine ⟨h1, fun ho => ?_, ?_⟩
    · obtain ⟨k, _, hk⟩ := owned_res.1 ho
      exact h2 ⟨k, hk⟩
    · rintro (hx | ⟨k, _, hk⟩)
      · exact h3 hx
      · exact h2 ⟨k, hk⟩

theorem HRel.res (h : HRel X keep w0 ι C w) (m : List Nat) : HRel (Foreign X ι C m) (fun b => b < w.heap.size ∧ ¬ owned ι (resC m C) b) w ι (resC m C) w := by
  have hok : okb (Foreign X ι C m) w ι (resC m C) = okb X w ι C := funext fun b => propext (okb_res m b)
  refine ⟨fun k => ?_, fun k k' b h1 h2 => ?_, Kept.refl _ _, fun b hb hk => hk.2 hb, fun b hb => hb.1, fun b hb hx => ?_, fun b hx => ?_, by rw [hok]; exact h.gl⟩
  · rw [hok]
    by_cases hm : k ∈ m
    · rw [resC_in hm]; exact h.bl k
    · rw [resC_out hm]; trivial
  · by_cases hm : k ∈ m
    · by_cases hm' : k' ∈ m
      · rw [bk_congr (resC_in hm) rfl] at h1
        rw [bk_congr (resC_in hm') rfl] at h2
        exact h.inj k k' b h1 h2
      · rw [bk_dead (resC_out hm')] at h2; cases h2
    · rw [bk_dead (resC_out hm)] at h1; cases h1
  · obtain ⟨k, hm, hk⟩ := owned_res.1 hb
    rcases hx with hx | ⟨k', hm', hk'⟩
    · exact h.ox b ⟨k, hk⟩ hx
    · exact hm' (h.inj k k' b hk hk' ▸ hm)
  · rcases hx with hx | ⟨k', _, hk'⟩
    · exact Nat.lt_of_lt_of_le (h.xl b hx) h.fr.size
    · exact h.lt ⟨k', hk'⟩

/-- Back from the named blocks to all. -/
theorem Out.back (h : HRel X keep w0 ι C w) {m : List Nat} {nb : Nat} {e : Eff} {v : Value} {w' : World} (hsub : ∀ k ∈ updIds e.upd, k ∈ m) (hnew : ∀ k, nb ≤ k → k < nb + e.new.length → ι k = none)
    (ho : Out (Foreign X ι C m) (fun b => b < w.heap.size ∧ ¬ owned ι (resC m C) b) w ι (resC m C) w nb e v w') : Out X keep w0 ι C w nb e v w' := by
  obtain ⟨ι', H, E, V, I⟩ := ho
  have hokw : okb (Foreign X ι C m) w ι (resC m C) = okb X w ι C := funext fun b => propext (okb_res m b)
  have hin : ∀ k, k ∈ m ∨ wrote nb e k → effC C nb e k = effC (resC m C) nb e k := fun k hk => effC_congr (hk.imp (fun q => (resC_in q).symm) id)
  have hout : ∀ k, k ∉ m → ¬ wrote nb e k → effC C nb e k = C k ∧ effC (resC m C) nb e k = .dead := fun k h1 h2 => ⟨effC_other h2, by rw [effC_other h2, resC_out h1]⟩
  have hιo : ∀ k, ¬ wrote nb e k → ι' k = ι k := fun k hk => I k (fun q => hk (.inr q))
  have hbn : ∀ k, k ∉ m → wrote nb e k → bk ι C k = none := by
    rintro k h1 (h2 | h2)
    · exact absurd (hsub k h2) h1
    · unfold bk
      rw [hnew k h2.1 h2.2]
      cases C k <;> (try rfl)
      rename_i rw; cases rw <;> rfl
  have hbk : ∀ k, k ∉ m → ¬ wrote nb e k → bk ι' (effC C nb e) k = bk ι C k := fun k h1 h2 => bk_congr (hout k h1 h2).1 (hιo k h2)
  have hbi : ∀ k, k ∈ m ∨ wrote nb e k → bk ι' (effC C nb e) k = bk ι' (effC (resC m C) nb e) k := fun k hk => bk_congr (hin k hk) rfl
  -- who owns what
  have hown : ∀ b, owned ι' (effC C nb e) b ↔ owned ι' (effC (resC m C) nb e) b ∨ ∃ k, k ∉ m ∧ bk ι C k = some b := by
    intro b
    constructor
    · rintro ⟨k, hk⟩
      by_cases hc : k ∈ m ∨ wrote nb e k
      · exact .inl ⟨k, by rw [← hbi k hc]; exact hk⟩
      · simp only [not_or] at hc
        exact .inr ⟨k, hc.1, by rw [← hbk k hc.1 hc.2]; exact hk⟩
    · rintro (⟨k, hk⟩ | ⟨k, hm, hk⟩)
      · by_cases hc : k ∈ m ∨ wrote nb e k
        · exact ⟨k, by rw [hbi k hc]; exact hk⟩
        · simp only [not_or] at hc
          rw [bk_dead (hout k hc.1 hc.2).2] at hk; cases hk
      · by_cases hwr : wrote nb e k
        · rw [hbn k hm hwr] at hk; cases hk
        · exact ⟨k, by rw [hbk k hm hwr]; exact hk⟩
  have hok : okb (Foreign X ι C m) w' ι' (effC (resC m C) nb e) = okb X w' ι' (effC C nb e) := by
    funext b
    apply propext
    constructor
    · rintro ⟨h1, h2, h3⟩
      refine ⟨h1, fun ho => ?_, fun hx => h3 (.inl hx)⟩
      rcases (hown b).1 ho with q | q
      · exact h2 q
      · exact h3 (.inr q)
    · rintro ⟨h1, h2, h3⟩
      refine ⟨h1, fun ho => h2 ((hown b).2 (.inl ho)), ?_⟩
      rintro (hx | q)
      · exact h3 hx
      · exact h2 ((hown b).2 (.inr q))
  have hext : Ext X ι C w ι' (effC C nb e) w' := by
    refine ⟨E.io, fun b hb => ?_, fun b hb => ?_⟩
    · rw [← hok]; exact E.ok b (by rw [hokw]; exact hb)
    · exact E.ce b (by rw [hokw]; exact hb)
  refine ⟨ι', ⟨fun k => ?_, fun k k' b h1 h2 => ?_, ?_, fun b hb hk => ?_, h.kl, fun b hb hx => ?_, h.xl, h.gl.ext hext⟩, hext, by rw [← hok]; exact V, I⟩
  · by_cases hc : k ∈ m ∨ wrote nb e k
    · rw [← hok, hin k hc]; exact H.bl k
    · simp only [not_or] at hc
      refine RelB_keep hext k (h.bl k) (hout k hc.1 hc.2).1 fun b hb => ?_
      refine H.fr.block b ⟨h.lt ⟨k, hb⟩, fun ho => ?_⟩ (h.lt ⟨k, hb⟩)
      obtain ⟨k', hm', hk'⟩ := owned_res.1 ho
      exact hc.1 (h.inj k' k b hk' hb ▸ hm')
  · have cross : ∀ k k', (k ∈ m ∨ wrote nb e k) → ¬ (k' ∈ m ∨ wrote nb e k') → bk ι' (effC C nb e) k = some b → bk ι' (effC C nb e) k' = some b → False := by
      intro k k' hc hc' h1 h2
      simp only [not_or] at hc'
      rw [hbi k hc] at h1
      rw [hbk k' hc'.1 hc'.2] at h2
      exact H.ox b ⟨k, h1⟩ (.inr ⟨k', hc'.1, h2⟩)
    by_cases hc : k ∈ m ∨ wrote nb e k <;> by_cases hc' : k' ∈ m ∨ wrote nb e k'
    · exact H.inj k k' b (by rw [← hbi k hc]; exact h1) (by rw [← hbi k' hc']; exact h2)
    · exact (cross k k' hc hc' h1 h2).elim
    · exact (cross k' k hc' hc h2 h1).elim
    · simp only [not_or] at hc hc'
      exact h.inj k k' b (by rw [← hbk k hc.1 hc.2]; exact h1) (by rw [← hbk k' hc'.1 hc'.2]; exact h2)
  · refine h.fr.trans ⟨H.fr.os, H.fr.tape, H.fr.output, H.fr.size, fun b hb hl => H.fr.block b ⟨hl, fun ho => ?_⟩ hl⟩
    obtain ⟨k, _, hk'⟩ := owned_res.1 ho
    exact h.own b ⟨k, hk'⟩ hb
  · rcases (hown b).1 hb with q | ⟨k, _, hk'⟩
    · refine H.own b q ⟨Nat.lt_of_lt_of_le (h.kl b hk) h.fr.size, fun ho => ?_⟩
      obtain ⟨k, _, hk'⟩ := owned_res.1 ho
      exact h.own b ⟨k, hk'⟩ hk
    · exact h.own b ⟨k, hk'⟩ hk
  · rcases (hown b).1 hb with q | ⟨k, _, hk'⟩
    · exact H.ox b q (.inl hx)
    · exact h.ox b ⟨k, hk'⟩ hx

/-- An operation over what it names alone. -/
theorem evOp_local (hP : TabOK P TT) (hΔ : CallsOK P Δ) {T : Nat → AV} {a : Act} (h : FRel X keep w0 n ι T C a w) {o : Oper} {l m : List Nat} {nb : Nat} {e : Eff}
    (hev : evOp TT Δ o (resT l T) (resC m C) nb (R := Eff) some = some e) (hsub : ∀ k ∈ updIds e.upd, k ∈ m) (hn : ∀ k, nb ≤ k → k < nb + e.new.length → ι k = none) {Q : Exit → Act → World → Prop} :
    o.wp P a w (fun a' w' => ∃ v, a' = a.put o.dst v ∧ Out X keep w0 ι C w nb e v w') Q := by
  have hH := h.h.res m
  have hokw : okb (Foreign X ι C m) w ι (resC m C) = okb X w ι C := funext fun b => propext (okb_res m b)
  have hT : ∀ t, RelV w (okb (Foreign X ι C m) w ι (resC m C)) ι (resT l T t) (a.tmps.getD t undef) := by
    intro t
    rw [hokw]
    unfold resT
    split
    · exact h.tm t
    · simp only [RelV]
  refine Oper.wp_mono ?_ (evOp_sound hP hΔ hH hT hev hn (Q := Q))
  rintro a' w' ⟨v, e1, ho⟩
  exact ⟨v, e1, ho.back h.h hsub hn⟩
end
end Go.Proofs.Rf
/- Rf, part n: a region that draws its order: every order comes to what the text's order comes to. -/
namespace Go.Proofs.Rf
open Go Go.RowKit

/-- One operation of a run in the text's order: the state ahead of it, what it comes to. -/
structure Ent where
  i : Nat
  o : Oper
  T : Nat → AV
  C : Nat → Blk
  nb : Nat
  skip : Bool
  e : Eff

def Ent.dv (x : Ent) : AV := if x.skip = true then .ud else x.e.dst
def Ent.C' (x : Ent) : Nat → Blk := if x.skip = true then x.C else effC x.C x.nb x.e
def Ent.nb' (x : Ent) : Nat := if x.skip = true then x.nb else x.nb + x.e.new.length
def Ent.ids (x : Ent) : List Nat := touchOf x.o x.T x.C
def Ent.log (x : Ent) : LogE := ⟨x.i, x.ids, updIds x.e.upd, rangeN x.nb x.e.new.length⟩

def GuardOn (ops : Array Oper) (T : Nat → AV) (o : Oper) : Prop := o.guard = none ∨ ∃ j want g, o.guard = some (j, want) ∧ (ops[j]?).bind (·.dst) = some g ∧ T g = .d .bool want
def GuardOff (ops : Array Oper) (T : Nat → AV) (o : Oper) : Prop := ∃ j want g, o.guard = some (j, want) ∧ (ops[j]?).bind (·.dst) = some g ∧ (T g = .d .bool (!want) ∨ T g = .ud)

section
variable {X keep : Nat → Prop} {w0 w : World} {ι : Nat → Option Value} {C : Nat → Blk} {P : Program} {TT : Tab} {Δ : Nat → Option CallO} {n : Nat → Bool}

def Tr (TT : Tab) (Δ : Nat → Option CallO) (n : Nat → Bool) (ops : Array Oper) : List (Nat × Oper) → (Nat → AV) → (Nat → Blk) → Nat → List Ent → (Nat → AV) → (Nat → Blk) → Nat → Prop
  | [], T, C, nb, es, T', C', nb' => es = [] ∧ T' = T ∧ C' = C ∧ nb' = nb
  | p :: r, T, C, nb, es, T', C', nb' => ∃ x xs, es = x :: xs ∧ x.i = p.1 ∧ x.o = p.2 ∧ x.T = T ∧ x.C = C ∧ x.nb = nb ∧ dstOk n x.o = true ∧
      (if x.skip = true then GuardOff ops T x.o else GuardOn ops T x.o ∧ evOp TT Δ x.o (resT (opTmps x.o.op.operands.toList) T) (resC x.ids C) nb (R := Eff) some = some x.e) ∧
      Tr TT Δ n ops r (effT T x.o.dst x.dv) x.C' x.nb' xs T' C' nb'

def logsOf : List Ent → List LogE
  | [] => []
  | x :: r => if x.skip = true then logsOf r else logsOf r ++ [x.log]

theorem trace (hΔ : CallsOK P Δ) {R : Type} {ops : Array Oper} {r : R} {K : St → List LogE → Option R} : ∀ (l : List (Nat × Oper)) (s : St) (lg : List LogE), evOps TT Δ n ops true l s lg K = some r →
    ∃ es s' , Tr TT Δ n ops l (getT s.tm) (getB s.bl) s.bl.length es (getT s'.tm) (getB s'.bl) s'.bl.length ∧ K s' (logsOf es ++ lg) = some r
  | [], s, lg, h => ⟨[], s, ⟨rfl, rfl, rfl, rfl⟩, h⟩
  | (i, o) :: rest, s, lg, hev => by
    simp only [evOps] at hev
    split at hev
    · rename_i hd
      have hrun : ∀ (s0 : St), getT s0.tm = getT s.tm → s0.bl = s.bl → GuardOn ops (getT s.tm) o → (evOpD TT Δ true o s0 fun e => if updLt s0.bl.length e.upd = true then evOps TT Δ n ops true rest (stepE o s0 e) (logOf i o s0 e :: lg) K else none) = some r →
          ∃ es s' , Tr TT Δ n ops ((i, o) :: rest) (getT s.tm) (getB s.bl) s.bl.length es (getT s'.tm) (getB s'.bl) s'.bl.length ∧ K s' (logsOf es ++ lg) = some r := by
        intro s0 h1 h2 hg hev
        unfold evOpD at hev
        rw [if_pos rfl, evOp_nat hΔ] at hev
        obtain ⟨e, he, hev⟩ := bind_some' hev
        split at hev
        · rename_i hu
          obtain ⟨es, s', ht, hk⟩ := trace hΔ rest _ _ hev
          rw [stepE_tm, stepE_bl, getB_eff hu, h1] at ht
          rw [h1, h2] at he
          refine ⟨⟨i, o, getT s.tm, getB s.bl, s.bl.length, false, e⟩ :: es, s', ⟨_, _, rfl, rfl, rfl, rfl, rfl, rfl, hd, ?_, ?_⟩, ?_⟩
          · simp only [Bool.false_eq_true, if_false]
            exact ⟨hg, he⟩
          · rw [h2, List.length_append, updB_length] at ht
            exact ht
          · show K s' ((logsOf es ++ [_]) ++ lg) = some r
            rw [List.append_assoc]
            unfold logOf at hk
            rw [h1, h2] at hk
            exact hk
        · cases hev
      have hskip : ∀ (s0 : St), getT s0.tm = getT s.tm → s0.bl = s.bl → GuardOff ops (getT s.tm) o → evOps TT Δ n ops true rest (stepS o s0) lg K = some r →
          ∃ es s' , Tr TT Δ n ops ((i, o) :: rest) (getT s.tm) (getB s.bl) s.bl.length es (getT s'.tm) (getB s'.bl) s'.bl.length ∧ K s' (logsOf es ++ lg) = some r := by
        intro s0 h1 h2 hg hev
        obtain ⟨es, s', ht, hk⟩ := trace hΔ rest _ _ hev
        rw [stepS_tm, stepS_bl, h1, h2] at ht
        exact ⟨⟨i, o, getT s.tm, getB s.bl, s.bl.length, true, ⟨.un, [], []⟩⟩ :: es, s', ⟨_, _, rfl, rfl, rfl, rfl, rfl, rfl, hd, by simp only [if_true]; exact hg, ht⟩, hk⟩
      have hknown : ∀ g b, getT s.tm g = .d .bool b → getT ((g, .d .bool b) :: s.tm) = getT s.tm := by
        intro g b hg
        rw [getT_cons]
        funext t
        unfold effT
        split
        · rename_i e
          injection e with e
          subst e
          exact hg.symm
        · rfl
      split at hev
      · rename_i hg
        exact hrun s rfl rfl (.inl hg) hev
      · rename_i j want hg
        split at hev
        · cases hev
        · rename_i g hgd
          split at hev
          · rename_i b hb
            split at hev
            · rename_i hbt
              subst hbt
              split at hev
              · rename_i hwt
                subst hwt
                exact hrun ⟨(g, .d .bool true) :: s.tm, s.bl⟩ (hknown g _ hb) rfl (.inr ⟨j, true, g, hg, hgd, hb⟩) hev
              · rename_i hwt
                have hwt : want = false := by simpa using hwt
                subst hwt
                exact hskip ⟨(g, .d .bool true) :: s.tm, s.bl⟩ (hknown g _ hb) rfl ⟨j, false, g, hg, hgd, .inl hb⟩ hev
            · rename_i hbt
              have hbt : b = false := by simpa using hbt
              subst hbt
              split at hev
              · rename_i hwt
                subst hwt
                exact hskip ⟨(g, .d .bool false) :: s.tm, s.bl⟩ (hknown g _ hb) rfl ⟨j, true, g, hg, hgd, .inl hb⟩ hev
              · rename_i hwt
                have hwt : want = false := by simpa using hwt
                subst hwt
                exact hrun ⟨(g, .d .bool false) :: s.tm, s.bl⟩ (hknown g _ hb) rfl (.inr ⟨j, false, g, hg, hgd, hb⟩) hev
          · rename_i hb
            exact hskip s rfl rfl ⟨j, want, g, hg, hgd, .inr hb⟩ hev
          · cases hev
    · cases hev

/-! ### The state behind some of the operations -/
def selT (S : Nat → Bool) : List Ent → (Nat → AV) → Nat → AV
  | [], T => T
  | x :: r, T => selT S r (if S x.i = true then effT T x.o.dst x.dv else T)

def selC (S : Nat → Bool) : List Ent → (Nat → Blk) → Nat → Blk
  | [], C => C
  | x :: r, C => selC S r (if S x.i = true ∧ x.skip = false then effC C x.nb x.e else C)

theorem selT_congr {S S' : Nat → Bool} {t : Nat} : ∀ (es : List Ent) (T T' : Nat → AV), T t = T' t → (∀ x ∈ es, x.o.dst = some t → S x.i = S' x.i) → selT S es T t = selT S' es T' t
  | [], _, _, h, _ => h
  | x :: r, T, T', h, hs => by
    refine selT_congr r _ _ ?_ (fun y hy => hs y (List.mem_cons_of_mem _ hy))
    have h1 := hs x (List.mem_cons_self ..)
    by_cases hd : x.o.dst = some t
    · rw [h1 hd]
      split
      · simp only [effT, hd, if_true]
      · exact h
    · have e1 : ∀ T : Nat → AV, effT T x.o.dst x.dv t = T t := fun T => by simp only [effT, hd, if_false]
      split <;> split <;> simp only [e1, h]

theorem selC_congr {S S' : Nat → Bool} {k : Nat} : ∀ (es : List Ent) (C C' : Nat → Blk), C k = C' k → (∀ x ∈ es, x.skip = false → wrote x.nb x.e k → S x.i = S' x.i) → selC S es C k = selC S' es C' k
  | [], _, _, h, _ => h
  | x :: r, C, C', h, hs => by
    refine selC_congr r _ _ ?_ (fun y hy => hs y (List.mem_cons_of_mem _ hy))
    have h1 := hs x (List.mem_cons_self ..)
    by_cases hk : x.skip = false
    · by_cases hd : wrote x.nb x.e k
      · rw [h1 hk hd]
        split
        · exact effC_congr (.inr hd)
        · exact h
      · have e1 : ∀ C : Nat → Blk, effC C x.nb x.e k = C k := fun C => effC_other hd
        split <;> split <;> simp only [e1, h]
    · rw [if_neg (fun q => hk q.2), if_neg (fun q => hk q.2)]
      exact h

theorem selT_none {S : Nat → Bool} {t : Nat} : ∀ (es : List Ent) (T : Nat → AV), (∀ x ∈ es, x.o.dst = some t → S x.i = false) → selT S es T t = T t
  | [], _, _ => rfl
  | x :: r, T, h => by
    show selT S r _ t = T t
    rw [selT_none r _ (fun y hy => h y (List.mem_cons_of_mem _ hy))]
    split
    · rename_i hs
      by_cases hd : x.o.dst = some t
      · rw [h x (List.mem_cons_self ..) hd] at hs; cases hs
      · simp only [effT, hd, if_false]
    · rfl

theorem selC_none {S : Nat → Bool} {k : Nat} : ∀ (es : List Ent) (C : Nat → Blk), (∀ x ∈ es, x.skip = false → wrote x.nb x.e k → S x.i = false) → selC S es C k = C k
  | [], _, _ => rfl
  | x :: r, C, h => by
    show selC S r _ k = C k
    rw [selC_none r _ (fun y hy => h y (List.mem_cons_of_mem _ hy))]
    split
    · rename_i hs
      by_cases hd : wrote x.nb x.e k
      · rw [h x (List.mem_cons_self ..) hs.2 hd] at hs; cases hs.1
      · exact effC_other hd
    · rfl

theorem selT_append (S : Nat → Bool) : ∀ (es fs : List Ent) (T : Nat → AV), selT S (es ++ fs) T = selT S fs (selT S es T)
  | [], _, _ => rfl
  | _ :: r, fs, _ => selT_append S r fs _
theorem selC_append (S : Nat → Bool) : ∀ (es fs : List Ent) (C : Nat → Blk), selC S (es ++ fs) C = selC S fs (selC S es C)
  | [], _, _ => rfl
  | _ :: r, fs, _ => selC_append S r fs _

/-- What a trace tells of its entries. -/
structure EntsOK (TT : Tab) (Δ : Nat → Option CallO) (n : Nat → Bool) (ops : Array Oper) (i0 : Nat) (T : Nat → AV) (C : Nat → Blk) (nb : Nat) (es : List Ent) : Prop where
  split : ∀ x es1 es2, es = es1 ++ x :: es2 → x.T = selT (fun _ => true) es1 T ∧ x.C = selC (fun _ => true) es1 C ∧ x.i = i0 + es1.length ∧ nb ≤ x.nb ∧ dstOk n x.o = true ∧
    (∀ y ∈ es1, y.i < x.i ∧ y.nb' ≤ x.nb) ∧ (∀ y ∈ es2, x.i < y.i ∧ x.nb' ≤ y.nb) ∧
    (if x.skip = true then GuardOff ops x.T x.o else GuardOn ops x.T x.o ∧ evOp TT Δ x.o (resT (opTmps x.o.op.operands.toList) x.T) (resC x.ids x.C) x.nb (R := Eff) some = some x.e)

theorem Ent.nb_le (x : Ent) : x.nb ≤ x.nb' := by unfold Ent.nb'; split <;> omega

theorem Tr.ents {ops : Array Oper} : ∀ (l : List Oper) (i0 : Nat) (T : Nat → AV) (C : Nat → Blk) (nb : Nat) (es : List Ent) (T' : Nat → AV) (C' : Nat → Blk) (nb' : Nat), Tr TT Δ n ops (zipN i0 l) T C nb es T' C' nb' →
    EntsOK TT Δ n ops i0 T C nb es ∧ es.map (·.o) = l ∧ T' = selT (fun _ => true) es T ∧ C' = selC (fun _ => true) es C ∧ nb ≤ nb' ∧ ∀ y ∈ es, i0 ≤ y.i ∧ nb ≤ y.nb ∧ y.nb' ≤ nb'
  | [], i0, T, C, nb, es, T', C', nb', h => by
    obtain ⟨rfl, rfl, rfl, rfl⟩ := h
    exact ⟨⟨fun x es1 es2 h => by simp at h⟩, rfl, rfl, rfl, Nat.le_refl _, by simp⟩
  | o :: r, i0, T, C, nb, es, T', C', nb', h => by
    obtain ⟨x, xs, rfl, h1, h2, h3, h4, h5, h6, h7, h8⟩ := h
    obtain ⟨k1, k2, k3, k4, k5, k6⟩ := Tr.ents r (i0 + 1) _ _ _ xs T' C' nb' h8
    have hx := x.nb_le
    have eT : (if (fun _ => true) x.i = true then effT T x.o.dst x.dv else T) = effT T x.o.dst x.dv := by simp
    have eC : (if (fun _ => true) x.i = true ∧ x.skip = false then effC C x.nb x.e else C) = x.C' := by
      unfold Ent.C'
      cases hsk : x.skip
      · simp [h4]
      · simp [h4]
    refine ⟨⟨fun y es1 es2 he => ?_⟩, by rw [List.map_cons, k2, h2], ?_, ?_, by omega, ?_⟩
    · cases es1 with
      | nil =>
        simp only [List.nil_append, List.cons.injEq] at he
        obtain ⟨rfl, rfl⟩ := he
        refine ⟨h3, h4, h1, by omega, h6, by simp, fun y hy => ?_, ?_⟩
        · obtain ⟨q1, q2, _⟩ := k6 y hy
          rw [h1]
          exact ⟨q1, q2⟩
        · rw [h3, h4, h5]; exact h7
      | cons z es1 =>
        simp only [List.cons_append, List.cons.injEq] at he
        obtain ⟨rfl, rfl⟩ := he
        obtain ⟨q1, q2, q3, q4, q5, q6, q7, q8⟩ := k1.split y es1 es2 rfl
        refine ⟨?_, ?_, by rw [q3, List.length_cons]; omega, by omega, q5, fun u hu => ?_, q7, q8⟩
        · rw [q1]; show _ = selT _ es1 _; rw [eT]
        · rw [q2]; show _ = selC _ es1 _; rw [eC]
        · rcases List.mem_cons.1 hu with rfl | hu
          · rw [h1, q3]; exact ⟨by omega, q4⟩
          · exact q6 u hu
    · rw [k3]; show _ = selT _ xs _; rw [eT]
    · rw [k4]; show _ = selC _ xs _; rw [eC]
    · intro y hy
      rcases List.mem_cons.1 hy with rfl | hy
      · exact ⟨by rw [h1]; exact Nat.le_refl _, by omega, k5⟩
      · obtain ⟨q1, q2, q3⟩ := k6 y hy
        exact ⟨by omega, by omega, q3⟩
end
end Go.Proofs.Rf
/- Rf, part o: the law of regions that draw their order. -/
namespace Go.Proofs.Rf
open Go Go.RowKit

/-! ### What waits for what -/
theorem predsOf_bit {acc : List Nat} {j : Nat} : ∀ (es : List Edge), (predsOf acc es).testBit j = true ↔ ∃ e ∈ es, Region.binds .any e = true ∧ (e.on = j ∨ (acc.getD e.on 0).testBit j = true)
  | [] => by simp [predsOf]
  | e :: r => by
    have ih := predsOf_bit (acc := acc) (j := j) r
    unfold predsOf
    by_cases hb : Region.binds .any e = true
    · rw [if_pos hb, Nat.testBit_or, Nat.testBit_or, Bool.or_eq_true, Bool.or_eq_true, ih, Nat.testBit_two_pow]
      constructor
      · rintro ((⟨e', h1, h2⟩ | h) | h)
        · exact ⟨e', List.mem_cons_of_mem _ h1, h2⟩
        · exact ⟨e, List.mem_cons_self .., hb, .inl (by simpa using h)⟩
        · exact ⟨e, List.mem_cons_self .., hb, .inr h⟩
      · rintro ⟨e', h1, h2, h3⟩
        rcases List.mem_cons.1 h1 with rfl | h1
        · rcases h3 with h3 | h3
          · exact .inl (.inr (by simpa using h3))
          · exact .inr h3
        · exact .inl (.inl ⟨e', h1, h2, h3⟩)
    · rw [if_neg hb, ih]
      constructor
      · rintro ⟨e', h1, h2⟩
        exact ⟨e', List.mem_cons_of_mem _ h1, h2⟩
      · rintro ⟨e', h1, h2, h3⟩
        rcases List.mem_cons.1 h1 with rfl | h1
        · exact absurd h2 hb
        · exact ⟨e', h1, h2, h3⟩

theorem masks_prefix : ∀ (l : List Oper) (acc : List Nat), ∃ r, masks l acc = acc ++ r ∧ r.length = l.length
  | [], acc => ⟨[], by simp [masks], rfl⟩
  | o :: l, acc => by
    obtain ⟨r, h1, h2⟩ := masks_prefix l (acc ++ [predsOf acc o.after.toList])
    exact ⟨predsOf acc o.after.toList :: r, by rw [masks, h1]; simp, by simp [h2]⟩

theorem masks_at : ∀ (l : List Oper) (acc : List Nat) (k : Nat) (o : Oper), l[k]? = some o → (masks l acc).getD (acc.length + k) 0 = predsOf ((masks l acc).take (acc.length + k)) o.after.toList
  | [], _, k, _, h => by simp at h
  | o' :: l, acc, 0, o, h => by
    simp only [List.getElem?_cons_zero, Option.some.injEq] at h
    subst h
    obtain ⟨r, h1, _⟩ := masks_prefix l (acc ++ [predsOf acc o'.after.toList])
    rw [masks, h1, Nat.add_zero, List.append_assoc]
    simp
  | o' :: l, acc, k + 1, o, h => by
    have := masks_at l (acc ++ [predsOf acc o'.after.toList]) k o (by simpa using h)
    rw [List.length_append, List.length_singleton, Nat.add_assoc, Nat.add_comm 1 k] at this
    exact this

/-- d waits for j. -/
def PB (ops : Array Oper) (d j : Nat) : Prop := ((masks ops.toList []).getD d 0).testBit j = true

theorem edgesOk_at : ∀ (l : List Oper) (i k : Nat) (o : Oper), edgesOk i l = true → l[k]? = some o → ∀ e ∈ o.after.toList, Region.binds .any e = true → e.on < i + k
  | [], _, _, _, _, h, _, _, _ => by simp at h
  | o' :: l, i, 0, o, he, h, e, hm, hb => by
    simp only [List.getElem?_cons_zero, Option.some.injEq] at h
    subst h
    simp only [edgesOk, Bool.and_eq_true, List.all_eq_true] at he
    have := he.1 e hm
    simp only [hb, Bool.not_true, Bool.false_or] at this
    exact Nat.le_of_ble_eq_true this
  | o' :: l, i, k + 1, o, he, h, e, hm, hb => by
    simp only [edgesOk, Bool.and_eq_true] at he
    have := edgesOk_at l (i + 1) k o he.2 (by simpa using h) e hm hb
    omega

section
variable {ops : Array Oper} (hE : edgesOk 0 ops.toList = true)
include hE

theorem PB_iff {d : Nat} {o : Oper} (ho : ops[d]? = some o) (j : Nat) : PB ops d j ↔ ∃ e ∈ o.after.toList, Region.binds .any e = true ∧ (e.on = j ∨ PB ops e.on j) := by
  have ho' : ops.toList[d]? = some o := by rw [Array.getElem?_toList]; exact ho
  unfold PB
  have h1 := masks_at ops.toList [] d o ho'
  simp only [List.length_nil, Nat.zero_add] at h1
  rw [h1, predsOf_bit]
  constructor
  · rintro ⟨e, h2, h3, h4⟩
    have hlt := edgesOk_at ops.toList 0 d o hE ho' e h2 h3
    refine ⟨e, h2, h3, h4.imp id fun h => ?_⟩
    rwa [List.getD_eq_getElem?_getD, List.getElem?_take, if_pos (by omega), ← List.getD_eq_getElem?_getD] at h
  · rintro ⟨e, h2, h3, h4⟩
    have hlt := edgesOk_at ops.toList 0 d o hE ho' e h2 h3
    refine ⟨e, h2, h3, h4.imp id fun h => ?_⟩
    rwa [List.getD_eq_getElem?_getD, List.getElem?_take, if_pos (by omega), ← List.getD_eq_getElem?_getD]

theorem PB_lt : ∀ (m d j : Nat), d ≤ m → PB ops d j → j < d
  | m, d, j, hm, h => by
    by_cases hd : d < ops.size
    · obtain ⟨o, ho⟩ : ∃ o, ops[d]? = some o := ⟨ops[d], Array.getElem?_eq_getElem hd⟩
      obtain ⟨e, h1, h2, h3⟩ := (PB_iff hE ho j).1 h
      have hlt := edgesOk_at ops.toList 0 d o hE (by rw [Array.getElem?_toList]; exact ho) e h1 h2
      rcases h3 with rfl | h3
      · omega
      · cases m with
        | zero => omega
        | succ m =>
          have := PB_lt m e.on j (by omega) h3
          omega
    · unfold PB at h
      obtain ⟨r, h1, h2⟩ := masks_prefix ops.toList []
      rw [List.getD_eq_getElem?_getD, List.getElem?_eq_none (by rw [h1]; simp [h2]; omega)] at h
      simp at h
end

/-- What is listed is shut: with an operation, all that it waits for. -/
def Shut (ops : Array Oper) (S : Nat → Bool) : Prop := ∀ d j, S d = true → PB ops d j → S j = true

theorem logOk1_at {B : List Nat} {a : LogE} : ∀ {l : List LogE}, logOk1 B a l = true → ∀ b ∈ l, apartL a b = true ∨ waits B a.i b.i = true
  | [], _, b, h => by simp at h
  | c :: r, hl, b, h => by
    simp only [logOk1, Bool.and_eq_true, Bool.or_eq_true] at hl
    rcases List.mem_cons.1 h with rfl | h
    · exact hl.1
    · exact logOk1_at hl.2 b h

theorem meetN_false {l m : List Nat} (h : meetN l m = false) : ∀ k ∈ l, k ∉ m := by
  induction l with
  | nil => simp
  | cons j r ih =>
    simp only [meetN, Bool.or_eq_false_iff] at h
    intro k hk
    rcases List.mem_cons.1 hk with rfl | hk
    · intro hm
      rw [memN_iff.2 hm] at h
      cases h.1
    · exact ih h.2 k hk

theorem apartL_symm {a b : LogE} (h : apartL a b = true) : apartL b a = true := by
  unfold apartL at h ⊢
  rw [Bool.and_comm]
  exact h

theorem waits_symm {B : List Nat} {i j : Nat} (h : waits B i j = true) : waits B j i = true := by
  unfold waits at h ⊢
  rw [Bool.or_comm]
  exact h

theorem logOk_at {B : List Nat} : ∀ {l : List LogE}, logOk B l = true → (∀ a ∈ l, subN a.wr a.touch = true) ∧ ∀ a ∈ l, ∀ b ∈ l, a = b ∨ apartL a b = true ∨ waits B a.i b.i = true
  | [], _ => by simp
  | c :: r, h => by
    simp only [logOk, Bool.and_eq_true] at h
    obtain ⟨h1, h2⟩ := logOk_at h.2
    refine ⟨fun a ha => ?_, fun a ha b hb => ?_⟩
    · rcases List.mem_cons.1 ha with rfl | ha
      · exact h.1.1
      · exact h1 a ha
    · rcases List.mem_cons.1 ha with rfl | ha' <;> rcases List.mem_cons.1 hb with rfl | hb'
      · exact .inl rfl
      · exact .inr (logOk1_at h.1.2 b hb')
      · exact .inr ((logOk1_at h.1.2 a ha').imp apartL_symm waits_symm)
      · exact h2 a ha' b hb'

theorem subN_iff : ∀ {l m : List Nat}, subN l m = true → ∀ k ∈ l, k ∈ m
  | [], _, _, k, h => by simp at h
  | j :: r, m, hs, k, h => by
    simp only [subN, Bool.and_eq_true] at hs
    rcases List.mem_cons.1 h with rfl | h
    · exact memN_iff.1 hs.1
    · exact subN_iff hs.2 k h

theorem mem_rangeN : ∀ {m a k : Nat}, k ∈ rangeN a m ↔ a ≤ k ∧ k < a + m
  | 0, a, k => by simp [rangeN]
  | m + 1, a, k => by
    simp only [rangeN, List.mem_cons, mem_rangeN (m := m)]
    omega

theorem mem_logsOf {x : Ent} : ∀ {es : List Ent}, x ∈ es → x.skip = false → x.log ∈ logsOf es
  | [], h, _ => by simp at h
  | y :: r, h, hs => by
    unfold logsOf
    rcases List.mem_cons.1 h with rfl | h
    · rw [if_neg (by simp [hs])]
      exact List.mem_append_right _ (List.mem_singleton.2 rfl)
    · split
      · exact mem_logsOf h hs
      · exact List.mem_append_left _ (mem_logsOf h hs)

theorem tmpsOk1_at {ops : Array Oper} {B : List Nat} {i : Nat} {x : Oper} : ∀ (l : List Oper) (j k : Nat) (y : Oper), tmpsOk1 ops B i x j l = true → l[k]? = some y → waits B i (j + k) = true ∨ x.apart ops y = true
  | [], _, _, _, _, h => by simp at h
  | y' :: l, j, 0, y, ht, h => by
    simp only [List.getElem?_cons_zero, Option.some.injEq] at h
    subst h
    simp only [tmpsOk1, Bool.and_eq_true, Bool.or_eq_true] at ht
    exact ht.1
  | y' :: l, j, k + 1, y, ht, h => by
    simp only [tmpsOk1, Bool.and_eq_true] at ht
    have := tmpsOk1_at l (j + 1) k y ht.2 (by simpa using h)
    rwa [show j + (k + 1) = j + 1 + k by omega]

theorem tmpsOk_at {ops : Array Oper} {B : List Nat} : ∀ (l : List Oper) (i k k' : Nat) (x y : Oper), tmpsOk ops B i l = true → k < k' → l[k]? = some x → l[k']? = some y → waits B (i + k) (i + k') = true ∨ x.apart ops y = true
  | [], _, _, _, _, _, _, _, h, _ => by simp at h
  | x' :: l, i, 0, k', x, y, ht, hlt, hx, hy => by
    simp only [List.getElem?_cons_zero, Option.some.injEq] at hx
    subst hx
    simp only [tmpsOk, Bool.and_eq_true] at ht
    obtain ⟨m, rfl⟩ : ∃ m, k' = m + 1 := ⟨k' - 1, by omega⟩
    have := tmpsOk1_at l (i + 1) m y ht.1 (by simpa using hy)
    rwa [Nat.add_zero, show i + (m + 1) = i + 1 + m by omega]
  | x' :: l, i, k + 1, k', x, y, ht, hlt, hx, hy => by
    simp only [tmpsOk, Bool.and_eq_true] at ht
    obtain ⟨m, rfl⟩ : ∃ m, k' = m + 1 := ⟨k' - 1, by omega⟩
    have := tmpsOk_at l (i + 1) k m x y ht.2 (by omega) (by simpa using hx) (by simpa using hy)
    rwa [show i + (k + 1) = i + 1 + k by omega, show i + (m + 1) = i + 1 + m by omega]

/-- Of two operations that don't wait for each other none writes what the other looks at. -/
theorem apart_both {ops : Array Oper} {x y : Oper} (h : x.apart ops y = true ∨ y.apart ops x = true) : ∀ d, x.dst = some d → d ∉ y.looksAt ops ∧ y.dst ≠ some d := by
  intro d hd
  rcases h with h | h
  · obtain ⟨h1, h2, h3⟩ := Oper.apart_spec h
    exact ⟨h1 d hd, h2 d hd⟩
  · obtain ⟨h1, h2, h3⟩ := Oper.apart_spec h
    exact ⟨h3 d hd, fun e => h2 d e hd⟩

theorem mem_opTmps {t : Nat} : ∀ {l : List Operand}, t ∈ opTmps l → Operand.tmp t ∈ l
  | [], h => by simp [opTmps] at h
  | .tmp u :: r, h => by
    simp only [opTmps, List.mem_cons] at h
    rcases h with rfl | h
    · exact List.mem_cons_self ..
    · exact List.mem_cons_of_mem _ (mem_opTmps h)
  | .const _ :: r, h => List.mem_cons_of_mem _ (mem_opTmps (l := r) h)
  | .global _ :: r, h => List.mem_cons_of_mem _ (mem_opTmps (l := r) h)
  | .func _ :: r, h => List.mem_cons_of_mem _ (mem_opTmps (l := r) h)

theorem looks_op {ops : Array Oper} {o : Oper} {t : Nat} (h : t ∈ opTmps o.op.operands.toList) : t ∈ o.looksAt ops := by
  unfold Oper.looksAt
  exact List.mem_append_left _ (List.mem_filterMap.2 ⟨.tmp t, mem_opTmps h, rfl⟩)

theorem looks_guard {ops : Array Oper} {o : Oper} {j g : Nat} {want : Bool} (h : o.guard = some (j, want)) (hg : (ops[j]?).bind (·.dst) = some g) : g ∈ o.looksAt ops := by
  unfold Oper.looksAt
  rw [h]
  exact List.mem_append_right _ (by simp [hg])
end Go.Proofs.Rf
/- Rf, part p: the law of regions that draw their order: the walk through any order. -/
namespace Go.Proofs.Rf
open Go Go.RowKit

section
variable {X keep : Nat → Prop} {w0 w : World} {ι : Nat → Option Value} {C : Nat → Blk} {P : Program} {TT : Tab} {Δ : Nat → Option CallO} {n : Slots} {no : Nat → Bool}

theorem wanted_on {ops : Array Oper} {T : Nat → AV} {a : Act} {okb : Nat → Prop} {o : Oper} (hT : ∀ t, RelV w okb ι (T t) (a.tmps.getD t undef)) (h : GuardOn ops T o) : Region.wanted o (yielded ops a.tmps) = true := by
  rcases h with h | ⟨j, want, g, hg, hgd, hb⟩
  · simp [Region.wanted, h]
  · have htm := hT g
    rw [hb, rel_bool] at htm
    have hy := yielded_bool hgd htm
    unfold Region.wanted
    rw [hg]
    simp only [hy]
    cases want <;> rfl

theorem wanted_off {ops : Array Oper} {T : Nat → AV} {a : Act} {okb : Nat → Prop} {o : Oper} (hT : ∀ t, RelV w okb ι (T t) (a.tmps.getD t undef)) (h : GuardOff ops T o) : Region.wanted o (yielded ops a.tmps) = false := by
  obtain ⟨j, want, g, hg, hgd, hb⟩ := h
  have htm := hT g
  rcases hb with hb | hb
  · rw [hb, rel_bool] at htm
    have hy := yielded_bool hgd htm
    unfold Region.wanted
    rw [hg]
    simp only [hy]
    cases want <;> rfl
  · rw [hb] at htm
    simp only [RelV] at htm
    have hy := yielded_ud hgd htm
    unfold Region.wanted
    rw [hg]
    simp [hy]

/-- The facts of a checked trace. -/
structure Drawn (TT : Tab) (Δ : Nat → Option CallO) (n : Nat → Bool) (ops : Array Oper) (T0 : Nat → AV) (C0 : Nat → Blk) (nb0 : Nat) (es : List Ent) : Prop where
  ents : EntsOK TT Δ n ops 0 T0 C0 nb0 es
  map : es.map (·.o) = ops.toList
  hE : edgesOk 0 ops.toList = true
  hT : tmpsOk ops (masks ops.toList []) 0 ops.toList = true
  hL : logOk (masks ops.toList []) (logsOf es) = true

theorem waits_iff {ops : Array Oper} {i j : Nat} : waits (masks ops.toList []) i j = true ↔ PB ops j i ∨ PB ops i j := by
  unfold waits PB
  rw [Bool.or_eq_true]

namespace Drawn
variable {ops : Array Oper} {T0 : Nat → AV} {C0 : Nat → Blk} {nb0 : Nat} {es : List Ent}

theorem len (D : Drawn TT Δ no ops T0 C0 nb0 es) : es.length = ops.size := by
  rw [← Array.length_toList, ← D.map, List.length_map]

theorem idx (D : Drawn TT Δ no ops T0 C0 nb0 es) {y : Ent} (hy : y ∈ es) : ops[y.i]? = some y.o ∧ y.i < ops.size := by
  obtain ⟨es1, es2, rfl⟩ := List.append_of_mem hy
  obtain ⟨_, _, hi, _⟩ := D.ents.split y es1 es2 rfl
  rw [Nat.zero_add] at hi
  have h1 : ops.toList[y.i]? = some y.o := by
    rw [← D.map, hi]
    simp
  rw [Array.getElem?_toList] at h1
  exact ⟨h1, (Array.getElem?_eq_some_iff.1 h1).1⟩

/-- What another operation may have done to what this one looks at. -/
theorem other (D : Drawn TT Δ no ops T0 C0 nb0 es) {S : Nat → Bool} (hS : Shut ops S) {x y : Ent} (hj : S x.i = false) (hr : ∀ k, PB ops x.i k → S k = true)
    (h : y.i = x.i ∨ waits (masks ops.toList []) x.i y.i = true) : S y.i = Nat.blt y.i x.i := by
  rcases h with h | h
  · rw [h, hj]
    symm
    exact Bool.eq_false_iff.2 fun e => Nat.lt_irrefl _ (Nat.le_of_ble_eq_true e)
  · rcases waits_iff.1 h with h | h
    · have hlt := PB_lt D.hE _ _ _ (Nat.le_refl _) h
      have hs : S y.i = false := by
        cases hs : S y.i with
        | false => rfl
        | true => rw [hS _ _ hs h] at hj; cases hj
      rw [hs]
      symm
      exact Bool.eq_false_iff.2 fun e => by have := Nat.le_of_ble_eq_true e; omega
    · have hlt := PB_lt D.hE _ _ _ (Nat.le_refl _) h
      rw [hr _ h]
      symm
      exact Nat.ble_eq_true_of_le hlt

theorem later (D : Drawn TT Δ no ops T0 C0 nb0 es) {S : Nat → Bool} (hS : Shut ops S) {x y : Ent} (hlt : x.i < y.i) (hj : S x.i = false)
    (h : waits (masks ops.toList []) x.i y.i = true) : S y.i = false := by
  rcases waits_iff.1 h with h | h
  · cases hs : S y.i with
    | false => rfl
    | true => rw [hS _ _ hs h] at hj; cases hj
  · have := PB_lt D.hE _ _ _ (Nat.le_refl _) h
    omega

/-- Two operations: the same, one waits for the other, or apart. -/
theorem tmp2 (D : Drawn TT Δ no ops T0 C0 nb0 es) {x y : Ent} (hx : x ∈ es) (hy : y ∈ es) : y.i = x.i ∨ waits (masks ops.toList []) x.i y.i = true ∨ (x.o.apart ops y.o = true ∨ y.o.apart ops x.o = true) := by
  have h1 := (D.idx hx).1
  have h2 := (D.idx hy).1
  rw [← Array.getElem?_toList] at h1 h2
  rcases Nat.lt_trichotomy y.i x.i with h | h | h
  · have := tmpsOk_at ops.toList 0 y.i x.i _ _ D.hT h h2 h1
    rw [Nat.zero_add, Nat.zero_add] at this
    exact .inr (this.imp waits_symm .inr)
  · exact .inl h
  · have := tmpsOk_at ops.toList 0 x.i y.i _ _ D.hT h h1 h2
    rw [Nat.zero_add, Nat.zero_add] at this
    exact .inr (this.imp id .inl)

theorem selTb (D : Drawn TT Δ no ops T0 C0 nb0 es) {x : Ent} (hx : x ∈ es) : x.T = selT (fun i => Nat.blt i x.i) es T0 ∧ x.C = selC (fun i => Nat.blt i x.i) es C0 := by
  obtain ⟨es1, es2, rfl⟩ := List.append_of_mem hx
  obtain ⟨h1, h2, h3, _, _, h6, h7, _⟩ := D.ents.split x es1 es2 rfl
  have hb : ∀ y ∈ es1, Nat.blt y.i x.i = true := fun y hy => Nat.ble_eq_true_of_le (h6 y hy).1
  have ha : ∀ y ∈ x :: es2, Nat.blt y.i x.i = false := by
    intro y hy
    refine Bool.eq_false_iff.2 fun e => ?_
    have e := Nat.le_of_ble_eq_true e
    rcases List.mem_cons.1 hy with rfl | hy
    · omega
    · have := (h7 y hy).1; omega
  constructor
  · funext t
    rw [h1, selT_append, selT_none (x :: es2) _ (fun y hy _ => ha y hy)]
    exact selT_congr es1 _ _ rfl (fun y hy _ => (hb y hy).symm)
  · funext k
    rw [h2, selC_append, selC_none (x :: es2) _ (fun y hy _ _ => ha y hy)]
    exact selC_congr es1 _ _ rfl (fun y hy _ _ => (hb y hy).symm)

theorem lookT (D : Drawn TT Δ no ops T0 C0 nb0 es) {S : Nat → Bool} (hS : Shut ops S) {x : Ent} (hx : x ∈ es) (hj : S x.i = false) (hr : ∀ k, PB ops x.i k → S k = true) {t : Nat} (ht : t ∈ x.o.looksAt ops) : selT S es T0 t = x.T t := by
  rw [(D.selTb hx).1]
  refine selT_congr es _ _ rfl fun y hy hd => D.other hS hj hr ?_
  rcases D.tmp2 hx hy with h | h | h
  · exact .inl h
  · exact .inr h
  · exact absurd ht (apart_both h.symm t hd).1

theorem log2 (D : Drawn TT Δ no ops T0 C0 nb0 es) {x y : Ent} (hx : x ∈ es) (hy : y ∈ es) (hsx : x.skip = false) (hsy : y.skip = false) : y.i = x.i ∨ waits (masks ops.toList []) x.i y.i = true ∨ apartL x.log y.log = true := by
  rcases (logOk_at D.hL).2 _ (mem_logsOf hx hsx) _ (mem_logsOf hy hsy) with h | h | h
  · left
    exact (congrArg LogE.i h).symm
  · exact .inr (.inr h)
  · exact .inr (.inl h)

theorem sub (D : Drawn TT Δ no ops T0 C0 nb0 es) {x : Ent} (hx : x ∈ es) (hsx : x.skip = false) : ∀ k ∈ updIds x.e.upd, k ∈ x.ids := subN_iff ((logOk_at D.hL).1 _ (mem_logsOf hx hsx))

theorem wrote_mem {y : Ent} {k : Nat} (h : wrote y.nb y.e k) : k ∈ y.log.wr ++ y.log.new := by
  rw [List.mem_append]
  exact h.imp id fun h => mem_rangeN.2 h

theorem apartL_out {x y : Ent} (h : apartL x.log y.log = true) : (∀ k, wrote x.nb x.e k → k ∉ y.log.touch ++ y.log.new) ∧ ∀ k, wrote y.nb y.e k → k ∉ x.log.touch ++ x.log.new := by
  unfold apartL at h
  rw [Bool.and_eq_true, Bool.not_eq_true', Bool.not_eq_true'] at h
  exact ⟨fun k hk => meetN_false h.1 k (wrote_mem hk), fun k hk => meetN_false h.2 k (wrote_mem hk)⟩

theorem lookC (D : Drawn TT Δ no ops T0 C0 nb0 es) {S : Nat → Bool} (hS : Shut ops S) {x : Ent} (hx : x ∈ es) (hsx : x.skip = false) (hj : S x.i = false) (hr : ∀ k, PB ops x.i k → S k = true) {k : Nat} (hk : k ∈ x.ids) : selC S es C0 k = x.C k := by
  rw [(D.selTb hx).2]
  refine selC_congr es _ _ rfl fun y hy hsy hw => D.other hS hj hr ?_
  rcases D.log2 hx hy hsx hsy with h | h | h
  · exact .inl h
  · exact .inr h
  · exact absurd (List.mem_append_left _ hk) ((apartL_out h).2 k hw)

def add (S : Nat → Bool) (j : Nat) : Nat → Bool := fun i => if i = j then true else S i
theorem add_self (S : Nat → Bool) (j : Nat) : add S j j = true := by simp [add]
theorem add_ne {S : Nat → Bool} {i j : Nat} (h : i ≠ j) : add S j i = S i := by simp [add, h]

theorem stepT (D : Drawn TT Δ no ops T0 C0 nb0 es) {S : Nat → Bool} (hS : Shut ops S) {x : Ent} (hx : x ∈ es) (hj : S x.i = false) : selT (add S x.i) es T0 = effT (selT S es T0) x.o.dst x.dv := by
  funext t
  by_cases hd : x.o.dst = some t
  · have hd' : effT (selT S es T0) x.o.dst x.dv t = x.dv := by simp only [effT, hd, if_true]
    rw [hd']
    obtain ⟨es1, es2, e⟩ := List.append_of_mem hx
    obtain ⟨_, _, h3, _, _, h6, h7, _⟩ := D.ents.split x es1 es2 e
    rw [e, selT_append]
    show selT (add S x.i) es2 _ t = _
    rw [if_pos (add_self S x.i), selT_none es2 _ fun y hy hyd => ?_]
    · simp only [effT, hd, if_true]
    · have hlt := (h7 y hy).1
      rw [add_ne (by omega)]
      rcases D.tmp2 hx (y := y) (by rw [e]; exact List.mem_append_right _ (List.mem_cons_of_mem _ hy)) with h | h | h
      · omega
      · exact D.later hS hlt hj h
      · exact absurd hyd (apart_both h t hd).2
  · have hd' : effT (selT S es T0) x.o.dst x.dv t = selT S es T0 t := by simp only [effT, hd, if_false]
    rw [hd']
    refine selT_congr es _ _ rfl fun y hy hyd => add_ne fun e => hd ?_
    have h1 := (D.idx hx).1
    have h2 := (D.idx hy).1
    rw [e, h1] at h2
    injection h2 with h2
    rw [h2]; exact hyd

theorem same (D : Drawn TT Δ no ops T0 C0 nb0 es) {x y : Ent} (hx : x ∈ es) (hy : y ∈ es) (h : y.i = x.i) : y = x := by
  have h2 : ∀ {z : Ent}, z ∈ es → es[z.i]? = some z := by
    intro z hz
    obtain ⟨es1, es2, e⟩ := List.append_of_mem hz
    obtain ⟨_, _, h3, _⟩ := D.ents.split z es1 es2 e
    rw [e, h3, Nat.zero_add]
    simp
  have a1 := h2 hx
  have a2 := h2 hy
  rw [h, a1] at a2
  injection a2 with a2
  exact a2.symm

theorem stepC (D : Drawn TT Δ no ops T0 C0 nb0 es) {S : Nat → Bool} (hS : Shut ops S) {x : Ent} (hx : x ∈ es) (hsx : x.skip = false) (hj : S x.i = false) : selC (add S x.i) es C0 = effC (selC S es C0) x.nb x.e := by
  funext k
  by_cases hw : wrote x.nb x.e k
  · have hsub := fun (y : Ent) (hy : y ∈ es) (h : y.skip = false) => D.sub hy h
    obtain ⟨es1, es2, e⟩ := List.append_of_mem hx
    obtain ⟨_, _, h3, _, _, h6, h7, _⟩ := D.ents.split x es1 es2 e
    have hl : selC (add S x.i) es C0 k = effC (selC (add S x.i) es1 C0) x.nb x.e k := by
      rw [e, selC_append]
      show selC (add S x.i) es2 _ k = _
      rw [if_pos ⟨add_self S x.i, hsx⟩, selC_none es2 _ fun y hy hsy hyw => ?_]
      have hlt := (h7 y hy).1
      have hy' : y ∈ es := by rw [e]; exact List.mem_append_right _ (List.mem_cons_of_mem _ hy)
      rw [add_ne (by omega)]
      rcases D.log2 hx hy' hsx hsy with h | h | h
      · omega
      · exact D.later hS hlt hj h
      · exfalso
        refine (apartL_out h).1 k hw ?_
        rcases hyw with hyw | hyw
        · exact List.mem_append_left _ (hsub y hy' hsy k hyw)
        · exact List.mem_append_right _ (mem_rangeN.2 hyw)
    rw [hl]
    exact effC_congr (.inr hw)
  · rw [effC_other hw]
    refine selC_congr es _ _ rfl fun y hy hsy hyw => add_ne fun e => hw ?_
    rw [← D.same hx hy e]; exact hyw

theorem stepCs (D : Drawn TT Δ no ops T0 C0 nb0 es) {S : Nat → Bool} {x : Ent} (hx : x ∈ es) (hsx : x.skip = true) : selC (add S x.i) es C0 = selC S es C0 := by
  funext k
  refine selC_congr es _ _ rfl fun y hy hsy hyw => add_ne fun e => ?_
  rw [D.same hx hy e, hsx] at hsy
  cases hsy

end Drawn

/-- The state amid a region: some of its operations are done. -/
structure Mid (X keep : Nat → Prop) (w0 : World) (n : Slots) (T0 : Nat → AV) (C0 : Nat → Blk) (nb0 : Nat) (es : List Ent) (S : Nat → Bool) (ι : Nat → Option Value) (a : Act) (w : World) : Prop where
  f : FRel X keep w0 n ι (selT S es T0) (selC S es C0) a w
  dom : ∀ k, ι k ≠ none → k < nb0 ∨ ∃ y ∈ es, y.skip = false ∧ S y.i = true ∧ y.nb ≤ k ∧ k < y.nb + y.e.new.length

variable {ops : Array Oper} {T0 : Nat → AV} {C0 : Nat → Blk} {nb0 : Nat} {es : List Ent}

theorem Mid.step (hP : TabOK P TT) (hΔ : CallsOK P Δ) (D : Drawn TT Δ n.ok ops T0 C0 nb0 es) {ρ : Option Nat} {dp : Nat} {S : Nat → Bool} (hS : Shut ops S) {a : Act} (M : Mid X keep w0 n T0 C0 nb0 es S ι a w) {x : Ent} (hx : x ∈ es) (hj : S x.i = false) (hr : ∀ k, PB ops x.i k → S k = true)
    {K : Act → World → Prop} {Q : Exit → Act → World → Prop} (hK : ∀ ι' a' w', Mid X keep w0 n T0 C0 nb0 es (Drawn.add S x.i) ι' a' w' → K a' w') : wpOpIn (WF ρ) dp P ops Q x.i K a w := by
  unfold wpOpIn
  rw [(D.idx hx).1]
  have hlook := fun t ht => D.lookT hS hx hj hr (t := t) ht
  have hgT : ∀ {j want g}, x.o.guard = some (j, want) → (ops[j]?).bind (·.dst) = some g → selT S es T0 g = x.T g := fun h1 h2 => hlook _ (looks_guard h1 h2)
  have hse : ∃ es1 es2, es = es1 ++ x :: es2 := List.append_of_mem hx
  obtain ⟨es1, es2, e⟩ := hse
  obtain ⟨_, _, h3, hnb, hdst, h6, h7, hev⟩ := D.ents.split x es1 es2 e
  cases hsk : x.skip
  · simp only [hsk, Bool.false_eq_true, if_false] at hev
    obtain ⟨hg, hev⟩ := hev
    have hg' : GuardOn ops (selT S es T0) x.o := by
      rcases hg with hg | ⟨j, want, g, h1, h2, h3⟩
      · exact .inl hg
      · exact .inr ⟨j, want, g, h1, h2, by rw [hgT h1 h2]; exact h3⟩
    have hw := wanted_on M.f.tm hg'
    simp only [hw, if_true]
    refine wpIn_of_wp (evOp_no_defer hev) ?_
    have hT : resT (opTmps x.o.op.operands.toList) (selT S es T0) = resT (opTmps x.o.op.operands.toList) x.T := by
      funext t
      unfold resT
      split
      · rename_i hm
        exact hlook t (looks_op (memN_iff.1 hm))
      · rfl
    have hC : resC x.ids (selC S es C0) = resC x.ids x.C := by
      funext k
      unfold resC
      split
      · rename_i hm
        exact D.lookC hS hx hsk hj hr (memN_iff.1 hm)
      · rfl
    rw [← hT, ← hC] at hev
    refine Oper.wp_mono ?_ (evOp_local hP hΔ M.f hev (D.sub hx hsk) (fun k h1 h2 => ?_) (Q := Q))
    · rintro a' w' ⟨v, rfl, ι', o1, o2, o3, o4⟩
      refine hK ι' _ w' ⟨?_, fun k hk => ?_⟩
      · rw [D.stepT hS hx hj, D.stepC hS hx hsk hj]
        have hdv : x.dv = x.e.dst := by unfold Ent.dv; simp [hsk]
        rw [hdv]
        exact M.f.step (dstOk_lt hdst) o1 o2 o3
      · by_cases hkn : x.nb ≤ k ∧ k < x.nb + x.e.new.length
        · exact .inr ⟨x, hx, hsk, Drawn.add_self .., hkn⟩
        · rw [o4 k hkn] at hk
          rcases M.dom k hk with h | ⟨y, q1, q2, q3, q4⟩
          · exact .inl h
          · refine .inr ⟨y, q1, q2, ?_, q4⟩
            unfold Drawn.add
            split
            · rfl
            · exact q3
    · cases hι : ι k with
      | none => rfl
      | some v =>
        exfalso
        rcases M.dom k (by rw [hι]; simp) with h | ⟨y, q1, q2, q3, q4, q5⟩
        · omega
        · have hne : y.i ≠ x.i := fun e => by rw [e, hj] at q3; cases q3
          have hynb : y.nb' = y.nb + y.e.new.length := by unfold Ent.nb'; simp [q2]
          have hxnb : x.nb' = x.nb + x.e.new.length := by unfold Ent.nb'; simp [hsk]
          rw [e] at q1
          rcases List.mem_append.1 q1 with q1 | q1
          · have := (h6 y q1).2
            omega
          · rcases List.mem_cons.1 q1 with rfl | q1
            · exact hne rfl
            · have := (h7 y q1).2
              omega
  · simp only [hsk, if_true] at hev
    have hg' : GuardOff ops (selT S es T0) x.o := by
      obtain ⟨j, want, g, h1, h2, h3⟩ := hev
      exact ⟨j, want, g, h1, h2, by rw [hgT h1 h2]; exact h3⟩
    have hw := wanted_off M.f.tm hg'
    simp only [hw]
    refine ⟨fun _ _ => trivial, hK ι _ w ⟨?_, fun k hk => ?_⟩⟩
    · rw [D.stepT hS hx hj, D.stepCs hx hsk]
      have hdv : x.dv = .ud := by unfold Ent.dv; simp [hsk]
      rw [hdv]
      exact M.f.step (dstOk_lt hdst) M.f.h (Ext.refl _ _ _ _) (by simp only [RelV])
    · rcases M.dom k hk with h | ⟨y, q1, q2, q3, q4⟩
      · exact .inl h
      · refine .inr ⟨y, q1, q2, ?_, q4⟩
        unfold Drawn.add
        split
        · rfl
        · exact q3

theorem Drawn.ent (D : Drawn TT Δ n.ok ops T0 C0 nb0 es) {j : Nat} (h : j < ops.size) : ∃ x ∈ es, x.i = j := by
  have hl : j < es.length := by rw [D.len]; exact h
  refine ⟨es[j], List.getElem_mem hl, ?_⟩
  have e : es = es.take j ++ es[j] :: es.drop (j + 1) := by simp
  obtain ⟨_, _, h3, _⟩ := D.ents.split es[j] _ _ e
  rw [h3, List.length_take, Nat.min_eq_left (Nat.le_of_lt hl), Nat.zero_add]

/-- What all the operations that are listed wait for is listed. -/
theorem all_listed (hE : edgesOk 0 ops.toList = true) {listed : Array Bool} (hs : listed.size = ops.size) (hr : Region.ready .any ops listed = []) : ∀ j, j < ops.size → listed.getD j false = true := by
  intro j
  induction j using Nat.strongRecOn with
  | ind j ih =>
    intro hj
    cases hl : listed.getD j false with
    | true => rfl
    | false =>
      exfalso
      have : j ∈ Region.ready .any ops listed := by
        rw [mem_ready]
        refine ⟨?_, ops[j], Array.getElem?_eq_getElem hj, fun e he hb => ?_⟩
        · rw [Array.getD_eq_getD_getElem?] at hl ⊢
          rw [Array.getElem?_eq_getElem (by omega)] at hl ⊢
          exact hl
        · have hlt := edgesOk_at ops.toList 0 j ops[j] hE (by rw [Array.getElem?_toList]; exact Array.getElem?_eq_getElem hj) e (by simpa using he) hb
          exact ih e.on (by omega) (by omega)
      rw [hr] at this
      cases this

theorem walk_any (hP : TabOK P TT) (hΔ : CallsOK P Δ) (D : Drawn TT Δ n.ok ops T0 C0 nb0 es) {ρ : Option Nat} {dp : Nat} {Q : Exit → Act → World → Prop} (hQ : ∀ ι' a' w', Mid X keep w0 n T0 C0 nb0 es (fun _ => true) ι' a' w' → Q .normal a' w') :
    ∀ (fuel : Nat) (U : List Nat) (listed : Array Bool) (a : Act) (w : World) (ι : Nat → Option Value), U.length ≤ fuel → (∀ j, j < ops.size → listed.getD j false = false → j ∈ U) → listed.size = ops.size → Shut ops (fun i => listed.getD i false) → Mid X keep w0 n T0 C0 nb0 es (fun i => listed.getD i false) ι a w →
      wpAnyIn (WF ρ) dp P .any ops Q fuel listed a w := by
  have hdone : ∀ (listed : Array Bool) (a : Act) (w : World) (ι : Nat → Option Value), listed.size = ops.size → Mid X keep w0 n T0 C0 nb0 es (fun i => listed.getD i false) ι a w → Region.ready .any ops listed = [] → Q .normal a w := by
    intro listed a w ι hs M hr
    have hall := all_listed D.hE hs hr
    have hy : ∀ y ∈ es, (fun i => listed.getD i false) y.i = (fun _ => true) y.i := fun y hy => hall y.i (D.idx hy).2
    refine hQ ι a w ⟨?_, fun k hk => ?_⟩
    · have e1 : selT (fun _ => true) es T0 = selT (fun i => listed.getD i false) es T0 := funext fun t => (selT_congr es _ _ rfl fun y h _ => hy y h).symm
      have e2 : selC (fun _ => true) es C0 = selC (fun i => listed.getD i false) es C0 := funext fun t => (selC_congr es _ _ rfl fun y h _ _ => hy y h).symm
      rw [e1, e2]
      exact M.f
    · rcases M.dom k hk with h | ⟨y, q1, q2, q3, q4⟩
      · exact .inl h
      · exact .inr ⟨y, q1, q2, rfl, q4⟩
  intro fuel
  induction fuel with
  | zero =>
    intro U listed a w ι hU hm hs _ M
    have hU : U = [] := List.length_eq_zero_iff.1 (by omega)
    subst hU
    have hr : Region.ready .any ops listed = [] := by
      cases hr : Region.ready .any ops listed with
      | nil => rfl
      | cons j r =>
        exfalso
        have hj : j ∈ Region.ready .any ops listed := by rw [hr]; exact List.mem_cons_self ..
        obtain ⟨h1, o, h2, _⟩ := mem_ready.1 hj
        have hlt := (Array.getElem?_eq_some_iff.1 h2).1
        refine absurd (hm j hlt ?_) (by simp)
        rw [Array.getD_eq_getD_getElem?] at h1 ⊢
        rw [Array.getElem?_eq_getElem (by omega)] at h1 ⊢
        exact h1
    exact ⟨hr, hdone listed a w ι hs M hr⟩
  | succ fuel ih =>
    intro U listed a w ι hU hm hs hS M
    refine ⟨hdone listed a w ι hs M, fun j hj => ?_⟩
    obtain ⟨h1, o, h2, h3⟩ := mem_ready.1 hj
    have hlt := (Array.getElem?_eq_some_iff.1 h2).1
    have hf : listed.getD j false = false := by
      rw [Array.getD_eq_getD_getElem?] at h1 ⊢
      rw [Array.getElem?_eq_getElem (by omega)] at h1 ⊢
      exact h1
    obtain ⟨x, hx, rfl⟩ := D.ent hlt
    have hpb : ∀ k, PB ops x.i k → listed.getD k false = true := by
      intro k hk
      obtain ⟨e, q1, q2, q3⟩ := (PB_iff D.hE h2 k).1 hk
      have hl := h3 e (by simpa using q1) q2
      rcases q3 with rfl | q3
      · exact hl
      · exact hS _ _ hl q3
    have hadd : (fun i => (listed.setIfInBounds x.i true).getD i false) = Drawn.add (fun i => listed.getD i false) x.i := by
      funext i
      unfold Drawn.add
      split
      · rename_i h
        subst h
        simp [hs, hlt]
      · rename_i h
        exact getD_set_ne false (Ne.symm h)
    refine Mid.step hP hΔ D hS M hx hf hpb fun ι' a' w' M' => ih (U.erase x.i) _ a' w' ι' ?_ (fun k hk hkf => ?_) (by simp [hs]) ?_ (by rw [hadd]; exact M')
    · have hmem := hm x.i hlt hf
      rw [List.length_erase_of_mem hmem]
      omega
    · have hne : k ≠ x.i := by
        intro e
        subst e
        rw [congrFun hadd, Drawn.add_self] at hkf
        cases hkf
      rw [getD_set_ne false (Ne.symm hne)] at hkf
      exact (List.mem_erase_of_ne hne).2 (hm k hk hkf)
    · rw [hadd]
      intro d k hd hk
      by_cases hkx : k = x.i
      · subst hkx; exact Drawn.add_self ..
      · rw [Drawn.add_ne hkx]
        by_cases hdx : d = x.i
        · subst hdx; exact hpb k hk
        · rw [Drawn.add_ne hdx] at hd
          exact hS d k hd hk

/-- A region that draws its order. -/
theorem evOps_draw (hm : P.follows .mixedOrders = true) (hP : TabOK P TT) (hΔ : CallsOK P Δ) {ρ : Option Nat} {dp : Nat} {R : Type} {Q : Exit → Act → World → Prop} {r : R} {K : St → Option R} {id : Nat} {s : St} {a : Act}
    (hev : evOps TT Δ n.ok ops true (zipN 0 ops.toList) s [] (fun s' lg => if drawOk ops lg = true then K s' else none) = some r) (h : SRel X keep w0 n ι s a w)
    (hQ : ∀ s' a' w' ι', K s' = some r → SRel X keep w0 n ι' s' a' w' → Q .normal a' w') : (Code.region id ops true).wpIn (WF ρ) dp P Q a w := by
  obtain ⟨es, s', ht, hk⟩ := trace hΔ _ _ _ hev
  rw [List.append_nil] at hk
  split at hk
  · rename_i hd
    obtain ⟨k1, k2, k3, k4, k5, k6⟩ := Tr.ents ops.toList 0 _ _ _ es _ _ _ ht
    simp only [drawOk, Bool.and_eq_true] at hd
    have D : Drawn TT Δ n.ok ops (getT s.tm) (getB s.bl) s.bl.length es := ⟨k1, k2, hd.1.1, hd.1.2, hd.2⟩
    refine wpIn_region_any hm (walk_any (X := X) (keep := keep) (w0 := w0) hP hΔ D (fun ι' a' w' M => hQ s' a' w' ι' hk ⟨?_, fun k hk => ?_⟩) ops.size (List.range ops.size) _ a _ ι (by simp) (fun j hj _ => by simpa using hj) (by simp) ?_ ?_)
    · rw [k3, k4]; exact M.f
    · cases hι : ι' k with
      | none => rfl
      | some v =>
        exfalso
        rcases M.dom k (by rw [hι]; simp) with h | ⟨y, q1, q2, q3, q4, q5⟩
        · omega
        · have := (k6 y q1).2.2
          have hynb : y.nb' = y.nb + y.e.new.length := by unfold Ent.nb'; simp [q2]
          omega
    · intro d j hd _
      exfalso
      revert hd
      simp only [Array.getD_eq_getD_getElem?, Array.getElem?_replicate]
      split <;> simp
    · have hz : (fun i => (Array.replicate ops.size false).getD i false) = fun _ => false := by
        funext i
        simp only [Array.getD_eq_getD_getElem?, Array.getElem?_replicate]
        split <;> rfl
      rw [hz]
      refine ⟨?_, fun k hk => ?_⟩
      · have e1 : selT (fun _ => false) es (getT s.tm) = getT s.tm := funext fun t => selT_none es _ fun _ _ _ => rfl
        have e2 : selC (fun _ => false) es (getB s.bl) = getB s.bl := funext fun t => selC_none es _ fun _ _ _ _ => rfl
        rw [e1, e2]
        exact h.f.drawn _
      · left
        rcases Nat.lt_or_ge k s.bl.length with q | q
        · exact q
        · exact absurd (h.dom k q) hk
  · cases hk
end
end Go.Proofs.Rf
/- Rf, part q: a state cut down to what is wanted of it; loops; code. -/
namespace Go.Proofs.Rf
open Go Go.RowKit

/-! ### A state cut down -/
def posN (k : Nat) : List Nat → Option Nat
  | [] => none
  | j :: r => if Nat.beq j k = true then some 0 else match posN k r with
    | some i => some (i + 1)
    | none => none

mutual
def AV.ren (C : Nat → Blk) (f : Nat → Option Nat) : AV → AV
  | .d t x => .d t x
  | .un => .un
  | .ud => .ud
  | .nl => .nl
  | .ub => .ub
  | .np => .np
  | .rf b => match C b with
    | .row t _ xs false => .d (.sl t) xs
    | _ => match f b with
      | some j => .rf j
      | none => .un
  | .rs b sz off len => match f b with
    | some j => .rs j sz off len
    | none => .un
  | .pt b o => match f b with
    | some j => .pt j o
    | none => .un
  | .pe b sz i o => match f b with
    | some j => .pe j sz i o
    | none => .un
  | .ve cs => .ve (AV.renL C f cs)
  | .ag cs => .ag (AV.renL C f cs)
  | .tp cs => .tp (AV.renL C f cs)
  | .fn g cs => .fn g (AV.renL C f cs)
  | .fm g cs => .fm g (AV.renL C f cs)
  | .mp b => match f b with
    | some j => .mp j
    | none => .un
  | .mnil => .mnil
def AV.renL (C : Nat → Blk) (f : Nat → Option Nat) : List AV → List AV
  | [] => []
  | a :: r => a.ren C f :: AV.renL C f r
end

def Blk.ren (C : Nat → Blk) (f : Nat → Option Nat) : Blk → Blk
  | .box e cs => .box e (AV.renL C f cs)
  | b => b

def Blk.ids : Blk → List Nat
  | .box _ cs => AV.idsL cs
  | _ => []

def Blk.frozen : Blk → Bool
  | .row _ _ _ false => true
  | _ => false

/-- The blocks that are reached. -/
def reachN (C : Nat → Blk) : Nat → List Nat → List Nat → List Nat
  | 0, _, done => done
  | _ + 1, [], done => done
  | k + 1, i :: todo, done => if memN i done = true then reachN C k todo done else reachN C k ((C i).ids ++ todo) (done ++ [i])

def unfrozen (C : Nat → Blk) (T : Nat → AV) : List Nat → List Nat
  | [] => []
  | t :: r => (match T t with
    | .rf b => if (C b).frozen = true then [] else [b]
    | v => v.ids) ++ unfrozen C T r

def cutIds (live : List Nat) (s : St) : List Nat := reachN (getB s.bl) 64 (unfrozen (getB s.bl) (getT s.tm) live) []

def cutT (C : Nat → Blk) (f : Nat → Option Nat) (T : Nat → AV) : List Nat → List (Nat × AV)
  | [] => []
  | t :: r => (t, (T t).ren C f) :: cutT C f T r

def cutB (C : Nat → Blk) (f : Nat → Option Nat) : List Nat → List Blk
  | [] => []
  | i :: r => (C i).ren C f :: cutB C f r

def cut (live : List Nat) (s : St) : St :=
  ⟨cutT (getB s.bl) (fun k => posN k (cutIds live s)) (getT s.tm) live, cutB (getB s.bl) (fun k => posN k (cutIds live s)) (cutIds live s)⟩

theorem posN_get {k : Nat} : ∀ {l : List Nat} {i : Nat}, posN k l = some i → l[i]? = some k
  | [], _, h => by cases h
  | j :: r, i, h => by
    unfold posN at h
    split at h
    · rename_i hj
      injection h with h
      subst h
      rw [Nat.eq_of_beq_eq_true hj]
      rfl
    · cases hp : posN k r with
      | none => rw [hp] at h; cases h
      | some m =>
        rw [hp] at h
        injection h with h
        subst h
        simpa using posN_get hp

theorem reachN_nodup (C : Nat → Blk) : ∀ (n : Nat) (todo done : List Nat), done.Nodup → (reachN C n todo done).Nodup
  | 0, _, _, h => h
  | _ + 1, [], _, h => h
  | n + 1, i :: todo, done, h => by
    unfold reachN
    split
    · exact reachN_nodup C n _ _ h
    · rename_i hm
      refine reachN_nodup C n _ _ ?_
      rw [List.nodup_append]
      refine ⟨h, by simp, fun a ha b hb => ?_⟩
      rw [List.mem_singleton] at hb
      subst hb
      intro e
      subst e
      exact hm (memN_iff.2 ha)

theorem cutB_get (C : Nat → Blk) (f : Nat → Option Nat) : ∀ (l : List Nat) (j : Nat), getB (cutB C f l) j = match l[j]? with
    | some i => (C i).ren C f
    | none => .dead
  | [], j => by simp [cutB, getB]
  | i :: r, 0 => rfl
  | i :: r, j + 1 => by
    show getB (cutB C f r) j = _
    rw [cutB_get C f r j]
    simp

theorem cutB_length (C : Nat → Blk) (f : Nat → Option Nat) : ∀ (l : List Nat), (cutB C f l).length = l.length
  | [] => rfl
  | _ :: r => by simp [cutB, cutB_length C f r]

section
variable {X keep : Nat → Prop} {w0 w : World} {ι ι' : Nat → Option Value} {C : Nat → Blk} {ok ok' : Nat → Prop} {f : Nat → Option Nat}

mutual
theorem AV.ren_rel (hok : ∀ g, ok g → ok' g) (hB : ∀ k, RelB w ok ι k (C k)) (hf : ∀ k j, f k = some j → ι' j = ι k) : ∀ (v : AV) (u : Value), RelV w ok ι v u → RelV w ok' ι' (v.ren C f) u
  | .d t x, u, h => by
    simp only [RelV, AV.ren] at h ⊢
    exact Rz_mono (fun _ _ _ _ e => e) hok t x _ h
  | .un, _, _ => by simp only [RelV, AV.ren]
  | .ud, _, h => by simpa only [RelV, AV.ren] using h
  | .nl, _, h => by simpa only [RelV, AV.ren] using h
  | .ub, _, h => by simpa only [RelV, AV.ren] using h
  | .np, _, h => by simpa only [RelV, AV.ren] using h
  | .rf b, u, h => by
    simp only [RelV] at h
    have hb := hB b
    simp only [AV.ren]
    split
    · rename_i t e xs hC
      rw [hC] at hb
      obtain ⟨v, h1, _, h3⟩ := hb
      rw [h.1] at h1
      injection h1 with h1
      subst h1
      simp only [RelV]
      exact Rz_mono (fun _ _ _ _ e => e) hok _ _ _ h3
    · split
      · rename_i j hj
        simp only [RelV]
        rw [hf b j hj]
        exact h
      · simp only [RelV]
  | .rs b sz off len, u, h => by
    simp only [RelV] at h
    simp only [AV.ren]
    split
    · rename_i j hj
      simp only [RelV]
      rw [hf b j hj]
      exact h
    · simp only [RelV]
  | .pt b o, u, h => by
    simp only [RelV] at h
    simp only [AV.ren]
    split
    · rename_i j hj
      simp only [RelV]
      rw [hf b j hj]
      exact h
    · simp only [RelV]
  | .pe b sz i o, u, h => by
    simp only [RelV] at h
    simp only [AV.ren]
    split
    · rename_i j hj
      simp only [RelV]
      rw [hf b j hj]
      exact h
    · simp only [RelV]
  | .ve cs, u, h => by
    simp only [RelV, AV.ren] at h ⊢
    obtain ⟨g, o, us, h1, h2, h3, h4⟩ := h
    exact ⟨g, o, us, h1, hok _ h2, AV.renL_rel hok hB hf cs us h3, h4⟩
  | .ag cs, u, h => by
    simp only [RelV, AV.ren] at h ⊢
    obtain ⟨us, h1, h2⟩ := h
    exact ⟨us, h1, AV.renL_rel hok hB hf cs us h2⟩
  | .tp cs, u, h => by
    simp only [RelV, AV.ren] at h ⊢
    obtain ⟨us, h1, h2⟩ := h
    exact ⟨us, h1, AV.renL_rel hok hB hf cs us h2⟩
  | .fn g cs, u, h => by
    simp only [RelV, AV.ren] at h ⊢
    obtain ⟨us, h1, h2⟩ := h
    exact ⟨us, h1, AV.renL_rel hok hB hf cs us h2⟩
  | .fm g cs, u, h => by
    simp only [RelV, AV.ren] at h ⊢
    obtain ⟨us, h1, h2⟩ := h
    exact ⟨us, h1, AV.renL_rel hok hB hf cs us h2⟩
  | .mp b, u, h => by
    simp only [RelV] at h
    simp only [AV.ren]
    split
    · rename_i j hj
      simp only [RelV]
      rw [hf b j hj]
      exact h
    · simp only [RelV]
  | .mnil, _, h => by simpa only [RelV, AV.ren] using h
theorem AV.renL_rel (hok : ∀ g, ok g → ok' g) (hB : ∀ k, RelB w ok ι k (C k)) (hf : ∀ k j, f k = some j → ι' j = ι k) : ∀ (cs : List AV) (us : List Value), RelL w ok ι cs us → RelL w ok' ι' (AV.renL C f cs) us
  | [], us, h => by simpa only [RelL, AV.renL] using h
  | a :: r, us, h => by
    simp only [RelL, AV.renL] at h ⊢
    obtain ⟨v, vr, h1, h2, h3⟩ := h
    exact ⟨v, vr, h1, AV.ren_rel hok hB hf a v h2, AV.renL_rel hok hB hf r vr h3⟩
end

theorem Blk.ren_rel (hok : ∀ g, ok g → ok' g) (hB : ∀ k, RelB w ok ι k (C k)) (hf : ∀ k j, f k = some j → ι' j = ι k) {i j : Nat} (hi : ι' j = ι i) : RelB w ok' ι' j ((C i).ren C f) := by
  have hb := hB i
  cases hC : C i with
  | row t e xs rw =>
    rw [hC] at hb
    cases rw with
    | true =>
      obtain ⟨v, cs, h1, h2, h3⟩ := hb
      exact ⟨v, cs, by rw [hi]; exact h1, h2, RzL_mono (Rz_mono (fun _ _ _ _ e => e) hok t) h3⟩
    | false =>
      obtain ⟨v, h1, h0, h2⟩ := hb
      exact ⟨v, by rw [hi]; exact h1, h0, Rz_mono (fun _ _ _ _ e => e) hok _ _ _ h2⟩
  | box e cs =>
    rw [hC] at hb
    obtain ⟨g, us, h1, h2, h3⟩ := hb
    exact ⟨g, us, by rw [hi]; exact h1, h2, AV.renL_rel hok hB hf cs us h3⟩
  | it s pos =>
    rw [hC] at hb
    obtain ⟨g, h1, h2⟩ := hb
    exact ⟨g, by rw [hi]; exact h1, h2⟩
  | map kt va vt l =>
    rw [hC] at hb
    obtain ⟨g, es, ck, l', h1, h2, h3, h4, h5, h6⟩ := hb
    exact ⟨g, es, ck, l', by rw [hi]; exact h1, h2, h3, h4, h5, RzM_dat (fun _ _ _ _ e => e) hok h6⟩
  | dead => trivial

theorem bk_ren {i j : Nat} {C' : Nat → Blk} (hC : C' j = (C i).ren C f) (hi : ι' j = ι i) : bk ι' C' j = bk ι C i := by
  unfold bk
  rw [hC, hi]
  cases C i with
  | box e cs =>
    show (match Blk.box e (AV.renL C f cs), ι i with
      | .row _ _ _ true, some v => v.ownBlock
      | .box _ _, some (.pointer (some a)) => some a.block
      | .it _ _, some (.pointer (some a)) => some a.block
      | .map _ _ _ _, some (.map (some r)) => some r
      | _, _ => none) = _
    cases ι i with
    | none => rfl
    | some v =>
      cases v <;> try rfl
      rename_i p
      cases p <;> rfl
  | row t e xs rw => rfl
  | it s pos => rfl
  | map kt va vt l => rfl
  | dead => rfl

theorem cutT_get (live : List Nat) (C : Nat → Blk) (f : Nat → Option Nat) (T : Nat → AV) (t : Nat) : getT (cutT C f T live) t = .un ∨ getT (cutT C f T live) t = (T t).ren C f := by
  induction live with
  | nil => exact .inl rfl
  | cons u r ih =>
    show (if Nat.beq u t = true then _ else _) = _ ∨ (if Nat.beq u t = true then _ else _) = _
    split
    · rename_i h
      rw [Nat.eq_of_beq_eq_true h]
      exact .inr rfl
    · exact ih

theorem SRel.cut {n : Slots} {s : St} {a : Act} (h : SRel X keep w0 n ι s a w) (live : List Nat) : ∃ ι', SRel X keep w0 n ι' (cut live s) a w := by
  let ids := cutIds live s
  let f : Nat → Option Nat := fun k => posN k ids
  have hnd : ids.Nodup := reachN_nodup _ _ _ _ List.nodup_nil
  let ι' : Nat → Option Value := fun j => (ids[j]?).bind ι
  let C' := getB (Rf.cut live s).bl
  have hC' : ∀ j, C' j = match ids[j]? with
      | some i => (getB s.bl i).ren (getB s.bl) f
      | none => .dead := fun j => cutB_get _ f ids j
  have hι' : ∀ j i, ids[j]? = some i → ι' j = ι i := fun j i e => by show (ids[j]?).bind ι = _; rw [e]; rfl
  have hf : ∀ k j, f k = some j → ι' j = ι k := fun k j e => hι' j k (posN_get e)
  have hbk : ∀ j b, bk ι' C' j = some b → ∃ i, ids[j]? = some i ∧ bk ι (getB s.bl) i = some b := by
    intro j b hb
    cases hi : ids[j]? with
    | none =>
      have h1 : C' j = .dead := by rw [hC' j, hi]
      rw [bk_dead h1] at hb
      cases hb
    | some i =>
      refine ⟨i, rfl, ?_⟩
      rw [← hb]
      exact (bk_ren (by rw [hC' j, hi]) (hι' j i hi)).symm
  have hown : ∀ b, owned ι' C' b → owned ι (getB s.bl) b := by
    rintro b ⟨j, hj⟩
    obtain ⟨i, _, hi⟩ := hbk j b hj
    exact ⟨i, hi⟩
  have hok : ∀ b, okb X w ι (getB s.bl) b → okb X w ι' C' b := fun b hb => ⟨hb.1, fun ho => hb.2.1 (hown b ho), hb.2.2⟩
  refine ⟨ι', ⟨⟨fun j => ?_, fun j j' b h1 h2 => ?_, h.f.h.fr, fun b hb => h.f.h.own b (hown b hb), h.f.h.kl, fun b hb => h.f.h.ox b (hown b hb), h.f.h.xl, h.f.h.gl.mono fun g hg => ⟨hok g hg, rfl⟩⟩, fun t => ?_, h.f.size, h.f.defers⟩, fun j hj => ?_⟩
  · show RelB w (okb X w ι' C') ι' j (C' j)
    rw [hC' j]
    cases hi : ids[j]? with
    | none => trivial
    | some i => exact Blk.ren_rel hok h.f.h.bl hf (hι' j i hi)
  · obtain ⟨i, hi, hb⟩ := hbk j b h1
    obtain ⟨i', hi', hb'⟩ := hbk j' b h2
    have e := h.f.h.inj i i' b hb hb'
    subst e
    have hlt := (List.getElem?_eq_some_iff.1 hi).1
    exact (List.getElem?_inj hlt hnd).1 (hi.trans hi'.symm)
  · rcases cutT_get live (getB s.bl) f (getT s.tm) t with e | e
    · show RelV w (okb X w ι' C') ι' (getT (cutT (getB s.bl) f (getT s.tm) live) t) _
      rw [e]
      simp only [RelV]
    · show RelV w (okb X w ι' C') ι' (getT (cutT (getB s.bl) f (getT s.tm) live) t) _
      rw [e]
      exact AV.ren_rel hok h.f.h.bl hf _ _ (h.f.tm t)
  · have hl : (Rf.cut live s).bl.length = ids.length := cutB_length _ _ _
    show (ids[j]?).bind ι = none
    rw [List.getElem?_eq_none (by omega)]
    rfl

/-- A block that holds no cells is turned, or there is more memory: nothing that is told is touched. -/
theorem HRel.quiet (h : HRel X keep w0 ι C w) {w' : World} (r : Nat) (hos : w'.os = w.os) (htape : w'.tape = w.tape) (hout : w'.output = w.output) (hsz : w.heap.size ≤ w'.heap.size)
    (hh : ∀ b, b ≠ r → b < w.heap.size → w'.heap[b]? = w.heap[b]?) (hc : ∀ o v, w.cell? ⟨r, o, none⟩ = some v → False) (hb : ∀ b, owned ι C b → b ≠ r) (hk : ¬ keep r) :
    HRel X keep w0 ι C w' ∧ ∀ v u, RelV w (okb X w ι C) ι v u → RelV w' (okb X w' ι C) ι v u := by
  have hok : ∀ g, okb X w ι C g → okb X w' ι C g := fun g hg => ⟨Nat.lt_of_lt_of_le hg.1 hsz, hg.2⟩
  have hcell : ∀ g o v, okb X w ι C g → w.cell? ⟨g, o, none⟩ = some v → w'.cell? ⟨g, o, none⟩ = some v := by
    intro g o v hg hv
    by_cases e : g = r
    · subst e; exact (hc o v hv).elim
    · rw [← hv]; exact World.cell?_of_block (hh g e hg.1)
  have hown : ∀ b, owned ι C b → w'.heap[b]? = w.heap[b]? := fun b ho => hh b (hb b ho) (h.lt ho)
  refine ⟨⟨fun k => ?_, h.inj, ⟨hos.trans h.fr.os, htape.trans h.fr.tape, hout.trans h.fr.output, Nat.le_trans h.fr.size hsz, fun b hb' hl => ?_⟩, h.own, h.kl, h.ox, h.xl, fun g us hg => ?_⟩, fun v u hv => RelV_mono hcell hok (fun _ _ e => e) v u hv⟩
  · have hB := h.bl k
    cases hC : C k with
    | row t e xs rw =>
      rw [hC] at hB
      cases rw with
      | true =>
        obtain ⟨v, cs, h1, h2, h3⟩ := hB
        refine ⟨v, cs, h1, ⟨h2.1, ?_⟩, RzL_mono (Rz_mono hcell hok t) h3⟩
        rcases h2.2 with h4 | ⟨g, cap, cur, hv, h5, h6, h7⟩
        · exact .inl h4
        · refine .inr ⟨g, cap, cur, hv, h5, ?_, h7⟩
          rw [hown g ⟨k, by unfold bk; rw [hC, h1, hv]; rfl⟩]
          exact h6
      | false =>
        obtain ⟨v, h1, h0, h2⟩ := hB
        exact ⟨v, h1, h0, Rz_mono hcell hok _ _ _ h2⟩
    | box e cs =>
      rw [hC] at hB
      obtain ⟨g, us, h1, h2, h3⟩ := hB
      refine ⟨g, us, h1, ?_, RelL_mono hcell hok (fun _ _ e => e) cs us h3⟩
      rw [hown g ⟨k, by unfold bk; rw [hC, h1]⟩]
      exact h2
    | it s pos =>
      rw [hC] at hB
      obtain ⟨g, h1, h2⟩ := hB
      refine ⟨g, h1, ?_⟩
      rw [hown g ⟨k, by unfold bk; rw [hC, h1]⟩]
      exact h2
    | map kt va vt l =>
      rw [hC] at hB
      obtain ⟨g, es, ck, l', h1, h2, h3, h4, h5, h6⟩ := hB
      refine ⟨g, es, ck, l', h1, ?_, h3, h4, h5, RzM_dat hcell hok h6⟩
      rw [hown g ⟨k, by unfold bk; rw [hC, h1]⟩]
      exact h2
    | dead => trivial
  · have hne : b ≠ r := by rintro rfl; exact hk hb'
    rw [hh b hne (Nat.lt_of_lt_of_le hl h.fr.size)]
    exact h.fr.block b hb' hl
  · obtain ⟨h1, h0, e, fz, h2⟩ := h.gl g us hg
    refine ⟨hok g h1, h0, e, fz, ?_⟩
    rw [hh g ?_ h1.1]
    · exact h2
    · rintro rfl
      exact hc 0 us[0] (by simp [World.cell?, h2, h0])

/-- Less is asked to be kept. -/
theorem HRel.weaken (h : HRel X keep w0 ι C w) {keep1 : Nat → Prop} {w1 : World} (hk : ∀ b, keep1 b → keep b) (hw : Kept keep1 w1 w0) (hl : ∀ b, keep1 b → b < w1.heap.size) (hx : ∀ b, X b → b < w1.heap.size) : HRel X keep1 w1 ι C w :=
  ⟨h.bl, h.inj, hw.trans (h.fr.weak hk), fun b hb hb' => h.own b hb (hk b hb'), hl, h.ox, hx, h.gl⟩

end
end Go.Proofs.Rf
/- Rf, part r: code: its evaluation is what the program does. -/
namespace Go.Proofs.Rf
open Go Go.RowKit
section
variable {P : Program} {TT : Tab} {Δ : Nat → Option CallO} {n : Nat → Bool}
end

/-! ### The program's code -/
def Ex.out : Ex → Exit
  | .nm => .normal
  | .ex j => .exit j
  | .rt => .ret

theorem wp_loop_ix {P : Program} {F : Fence} {dp : Nat} {c : Code} {Q : Exit → Act → World → Prop} (I : Nat → Act → World → Prop) (h0 : ∀ a w, ¬ I 0 a w)
    (round : ∀ k a w, I (k + 1) a w → c.wpIn F dp P (Exit.then (fun a' w' => I k a' w') Q) a w) {k : Nat} {a : Act} {w : World} (h : I k a w) : (Code.loop c).wpIn F dp P Q a w := by
  intro b t cs hro hb hr
  have key : ∀ k a w, I k a w → ∃ e a' w', Q e a' w' ∧ ArrivesIn (Machine.fenced P F) P (lone (b.atR a (.code c :: .inLoop c :: t)) cs w) b t cs e a' w' := by
    intro k
    induction k with
    | zero => exact fun a w hI => (h0 a w hI).elim
    | succ k ih =>
      intro a w hI
      obtain ⟨e, a₁, w₁, hq, harr⟩ := round k a w hI b (.inLoop c :: t) cs hro hb hr
      cases e with
      | normal =>
        obtain ⟨e₂, a₂, w₂, hq₂, harr₂⟩ := ih a₁ w₁ hq
        exact ⟨e₂, a₂, w₂, hq₂, .of_steps (StepsIn.trans harr (.one (fenced_calm hb hr rfl) stepR_inLoop)) harr₂⟩
      | exit id => exact ⟨_, a₁, w₁, hq, .pass (x := .inLoop c) rfl (fun _ _ => .inl (by simp)) harr⟩
      | goto l => exact ⟨_, a₁, w₁, hq, .pass (x := .inLoop c) rfl (fun _ _ => .inl (by simp)) harr⟩
      | ret => exact ⟨_, a₁, w₁, hq, .pass (x := .inLoop c) rfl (fun _ _ => .inl (by simp)) harr⟩
      | panic ch => exact ⟨_, a₁, w₁, hq, .pass (x := .inLoop c) rfl (fun _ _ => .inl (by simp)) harr⟩
      | outgrown => exact ⟨_, a₁, w₁, hq, .pass (x := .inLoop c) rfl (fun _ _ => .inl (by simp)) harr⟩
  obtain ⟨e, a', w', hq, harr⟩ := key k a w h
  exact ⟨e, a', w', hq, .of_steps (.one (fenced_calm hb hr rfl) stepR_loop) harr⟩

/-- A later point to which things are kept. -/
structure Later (keep : Nat → Prop) (w0 : World) (keep' : Nat → Prop) (w0' : World) : Prop where
  mono : ∀ b, keep b → keep' b
  kept : Kept keep w0 w0'

theorem Later.refl (keep : Nat → Prop) (w0 : World) : Later keep w0 keep w0 := ⟨fun _ h => h, Kept.refl _ _⟩
theorem Later.trans {k1 k2 k3 : Nat → Prop} {w1 w2 w3 : World} (h : Later k1 w1 k2 w2) (k : Later k2 w2 k3 w3) : Later k1 w1 k3 w3 :=
  ⟨fun b hb => k.mono b (h.mono b hb), h.kept.trans (k.kept.weak h.mono)⟩

section
variable {P : Program} {TT : Tab} {Δ : Nat → Option CallO} {n : Slots}

/-- A loop's evaluation is what the loop does. -/
def CodeOK (P : Program) (n : Slots) (ρ : Option Nat) (l : LoopO) (c : Code) : Prop :=
  ∀ (dp : Nat) (X keep : Nat → Prop) (w0 w : World) (ι : Nat → Option Value) (s : St) (a : Act) (R : Type) (K : Ex → St → Option R) (r : R) (Q : Exit → Act → World → Prop),
    SRel X keep w0 n ι s a w → l s R K = some r → (∀ e s' a' w' ι' keep' w0', Later keep w0 keep' w0' → K e s' = some r → SRel X keep' w0' n ι' s' a' w' → Q e.out a' w') → c.wpIn (WF ρ) dp P Q a w

def LoopOK (P : Program) (n : Slots) (ρ : Option Nat) (l : LoopO) (c : Code) : Prop := CodeOK P n ρ l (.loop c)

/-- The loops of a text are told of. -/
def LoopsIn (P : Program) (n : Slots) (ρ : Option Nat) (Λ : Nat → Option LoopO) : Code → Prop
  | .seq a b => LoopsIn P n ρ Λ a ∧ LoopsIn P n ρ Λ b
  | .cond _ a b => LoopsIn P n ρ Λ a ∧ LoopsIn P n ρ Λ b
  | .block _ c => LoopsIn P n ρ Λ c
  | .scope c => LoopsIn P n ρ Λ c
  | .loop c => ∀ l, Λ (firstReg c) = some l → LoopOK P n ρ l c
  | .rangeFunc g ps asg body => ∀ l, Λ (firstReg asg) = some l → CodeOK P n ρ l (.rangeFunc g ps asg body)
  | _ => True

theorem stepR_scope' {P : Program} {b : Frame} {a : Act} {k : List Item} {cs : List Frame} {w : World} {c : Code} : step P (lone (b.atR a (.code (.scope c) :: k)) cs w) = .next (lone (b.atR a (.code c :: .inScope c :: k)) cs w) :=
  step_lone_go (by simp [stepG, stepG.exec, Frame.atR])
theorem stepR_inScope' {P : Program} {b : Frame} {a : Act} {k : List Item} {cs : List Frame} {w : World} {c : Code} : step P (lone (b.atR a (.inScope c :: k)) cs w) = .next (lone (b.atR a k) cs w) :=
  step_lone_go (by simp [stepG, stepG.exec, Frame.atR])

def noJump (Q : Exit → Act → World → Prop) : Exit → Act → World → Prop
  | .goto _, _, _ => False
  | e, a, w => Q e a w

/-- A scope without jumps. -/
theorem wpIn_scope' {F : Fence} {d : Nat} {P : Program} {Q : Exit → Act → World → Prop} {a : Act} {w : World} {c : Code} (h : c.wpIn F d P (noJump Q) a w) : (Code.scope c).wpIn F d P Q a w := by
  intro b k cs hro hb hr
  have h0 : (lone (b.atR a (.code (.scope c) :: k)) cs w).fenced P F := fenced_calm hb hr rfl
  obtain ⟨e, a₁, w₁, hq, harr⟩ := h b (.inScope c :: k) cs hro hb hr
  cases e with
  | normal => exact ⟨.normal, a₁, w₁, hq, .head h0 stepR_scope' (StepsIn.trans harr (.one (fenced_calm hb hr rfl) stepR_inScope'))⟩
  | exit id =>
    have hx : exitTo id (.inScope c :: k) = exitTo id k := by simp [exitTo]
    exact ⟨.exit id, a₁, w₁, hq, fun k' hk => .head h0 stepR_scope' (harr.1 k' (by rw [hx]; exact hk)),
      fun hr' hk => let ⟨k₁, h1, h2⟩ := harr.2 hr' (by rw [hx]; exact hk); ⟨k₁, h1, .head h0 stepR_scope' h2⟩⟩
  | goto l => exact hq.elim
  | ret => exact ⟨_, a₁, w₁, hq, .of_steps (.one h0 stepR_scope') harr⟩
  | panic ch => exact ⟨_, a₁, w₁, hq, .of_steps (.one h0 stepR_scope') harr⟩
  | outgrown => exact ⟨_, a₁, w₁, hq, .of_steps (.one h0 stepR_scope') harr⟩

theorem evC_sound (hm : P.follows .mixedOrders = true) (hP : TabOK P TT) (hΔ : CallsOK P Δ) {Λ : Nat → Option LoopO} {X : Nat → Prop} {ρ : Option Nat} {dp : Nat} : ∀ (c : Code), LoopsIn P n ρ Λ c → ∀ {R : Type} {r : R} (s : St) (K : Ex → St → Option R) (Q : Exit → Act → World → Prop) (a : Act) (w : World) (ι : Nat → Option Value) (keep : Nat → Prop) (w0 : World),
    SRel X keep w0 n ι s a w → evC TT Δ n.ok Λ c s K = some r → (∀ e s' a' w' ι' keep' w0', Later keep w0 keep' w0' → K e s' = some r → SRel X keep' w0' n ι' s' a' w' → Q e.out a' w') → c.wpIn (WF ρ) dp P Q a w
  | .skip, _, _, _, s, K, Q, a, w, ι, keep, w0, h, hev, hQ => wpIn_skip (hQ .nm s a w ι keep w0 (Later.refl _ _) hev h)
  | .region id ops draw, _, R, r, s, K, Q, a, w, ι, keep, w0, h, hev, hQ => by
    simp only [evC] at hev
    cases draw with
    | false =>
      refine wpIn_region ?_
      have hz : ∀ (l : List Oper) (i : Nat), (zipN i l).map (·.1) = List.range' i l.length := by
        intro l
        induction l with
        | nil => intro i; rfl
        | cons o l ih => intro i; simp [zipN, ih, List.range'_succ]
      have hg : ∀ (l : List Oper) (i : Nat), ∀ p ∈ zipN i l, ∃ k, p.1 = i + k ∧ l[k]? = some p.2 := by
        intro l
        induction l with
        | nil => intro i p hp; cases hp
        | cons o l ih =>
          intro i p hp
          rcases List.mem_cons.1 hp with rfl | hp
          · exact ⟨0, rfl, rfl⟩
          · obtain ⟨k, h1, h2⟩ := ih (i + 1) p hp
            exact ⟨k + 1, by omega, by simpa using h2⟩
      have := evOps_seq (ops := ops) (Q := Q) (ρ := ρ) (dp := dp) hP hΔ (zipN 0 ops.toList) s [] a w ι (fun p hp => by
        obtain ⟨k, h1, h2⟩ := hg _ _ p hp
        rw [h1, Nat.zero_add, ← Array.getElem?_toList]
        exact h2) hev h (fun s' lg' a' w' ι' hk h' => hQ .nm s' a' w' ι' keep w0 (Later.refl _ _) (by simpa using hk) h')
      rw [hz, Array.length_toList, ← List.range_eq_range'] at this
      exact this
    | true =>
      simp only [if_true] at hev
      exact evOps_draw hm hP hΔ (K := fun s' => K .nm s') hev h fun s' a' w' ι' hk h' => hQ .nm s' a' w' ι' keep w0 (Later.refl _ _) hk h'
  | .seq x y, hL, R, r, s, K, Q, a, w, ι, keep, w0, h, hev, hQ => by
    simp only [evC] at hev
    refine wpIn_seq (evC_sound hm hP hΔ x hL.1 s _ _ a w ι keep w0 h hev fun e s' a' w' ι' k1 v1 hl hk h' => ?_)
    cases e with
    | nm => exact evC_sound hm hP hΔ y hL.2 s' K Q a' w' ι' k1 v1 h' hk fun e s2 a2 w2 ι2 k2 v2 hl2 => hQ e s2 a2 w2 ι2 k2 v2 (hl.trans hl2)
    | ex j => exact hQ (.ex j) s' a' w' ι' k1 v1 hl hk h'
    | rt => exact hQ .rt s' a' w' ι' k1 v1 hl hk h'
  | .cond c x y, hL, R, r, s, K, Q, a, w, ι, keep, w0, h, hev, hQ => by
    simp only [evC] at hev
    have hc := ev_rel h.f.tm c
    split at hev
    · rename_i g hg
      rw [hg, rel_bool] at hc
      refine wpIn_cond hc ?_
      split at hev
      · rename_i ht
        subst ht
        exact evC_sound hm hP hΔ x hL.1 s K Q a w ι keep w0 h hev hQ
      · rename_i ht
        have ht : g = false := by simpa using ht
        subst ht
        exact evC_sound hm hP hΔ y hL.2 s K Q a w ι keep w0 h hev hQ
    · rename_i hg
      rw [hg] at hc
      simp only [RelV] at hc
      obtain ⟨g, hc⟩ := hc
      obtain ⟨h1, h2⟩ := meet_some hev
      refine wpIn_cond hc ?_
      cases g
      · exact evC_sound hm hP hΔ y hL.2 s K Q a w ι keep w0 h h2 hQ
      · exact evC_sound hm hP hΔ x hL.1 s K Q a w ι keep w0 h h1 hQ
    · cases hev
  | .block id c, hL, R, r, s, K, Q, a, w, ι, keep, w0, h, hev, hQ => by
    simp only [evC] at hev
    refine wpIn_block (evC_sound hm hP hΔ c hL s _ _ a w ι keep w0 h hev fun e s' a' w' ι' k1 v1 hl hk h' => ?_)
    cases e with
    | nm => exact hQ .nm s' a' w' ι' k1 v1 hl hk h'
    | ex j =>
      show Exit.inBlock id Q (.exit j) a' w'
      simp only at hk
      split at hk
      · rename_i hj
        have hj := Nat.eq_of_beq_eq_true hj
        subst hj
        have := hQ .nm s' a' w' ι' k1 v1 hl hk h'
        simpa [Exit.inBlock, Ex.out] using this
      · rename_i hj
        have hj : j ≠ id := fun e => hj (by rw [e]; exact Nat.beq_refl id)
        have := hQ (.ex j) s' a' w' ι' k1 v1 hl hk h'
        simpa [Exit.inBlock, hj, Ex.out] using this
    | rt => exact hQ .rt s' a' w' ι' k1 v1 hl hk h'
  | .loop c, hL, R, r, s, K, Q, a, w, ι, keep, w0, h, hev, hQ => by
    simp only [evC] at hev
    split at hev
    · rename_i l hl
      exact hL l hl dp X keep w0 w ι s a R K r Q h hev hQ
    · cases hev
  | .rangeFunc g ps asg body, hL, R, r, s, K, Q, a, w, ι, keep, w0, h, hev, hQ => by
    simp only [evC] at hev
    split at hev
    · rename_i l hl
      exact hL l hl dp X keep w0 w ι s a R K r Q h hev hQ
    · cases hev
  | .exit id, _, _, _, s, K, Q, a, w, ι, keep, w0, h, hev, hQ => wpIn_exit (hQ (.ex id) s a w ι keep w0 (Later.refl _ _) hev h)
  | .ret, _, _, _, s, K, Q, a, w, ι, keep, w0, h, hev, hQ => wpIn_ret (hQ .rt s a w ι keep w0 (Later.refl _ _) hev h)
  | .scope c, hL, R, r, s, K, Q, a, w, ι, keep, w0, h, hev, hQ => by
    simp only [evC] at hev
    refine wpIn_scope' (evC_sound hm hP hΔ c hL s K _ a w ι keep w0 h hev fun e s' a' w' ι' k1 v1 hl hk h' => ?_)
    have := hQ e s' a' w' ι' k1 v1 hl hk h'
    cases e <;> exact this
  | .label _, _, _, _, s, K, Q, a, w, ι, keep, w0, h, hev, hQ => wpIn_label (hQ .nm s a w ι keep w0 (Later.refl _ _) hev h)
  | .goto _, _, _, _, _, _, _, _, _, _, _, _, _, hev, _ => by cases hev
  | .refuse _, _, _, _, _, _, _, _, _, _, _, _, _, hev, _ => by cases hev
end
end Go.Proofs.Rf
