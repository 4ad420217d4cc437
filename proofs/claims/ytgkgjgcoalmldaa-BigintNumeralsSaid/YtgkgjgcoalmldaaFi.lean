/- Rf, part i: slices, places, and what else there is. -/
import Derived.Test.YtgkgjgcoalmldaaFh
namespace Go.Proofs.Rf
open Go Go.RowKit

section
variable {X keep : Nat → Prop} {w0 w : World} {ι : Nat → Option Value} {C : Nat → Blk} {P : Program} {TT : Tab}

theorem run_sliceBound {k : IntKind} {i : Int} {y : Nat} {code : BoundsCode} (h0 : 0 ≤ i) (h1 : i ≤ y) : (Instr.sliceBound (.int k i) y code).run P w = .ok i.toNat w := by
  simp [Instr.sliceBound, asIntOf, h0, h1]

/-- The bounds of a slice expression. -/
theorem sliceAt_sound {ok : Nat → Prop} {N cap : Nat} (hN : N ≤ cap) {bs : Bool} {lo hi : Option AV} {vlo vhi : Option Value} (hlo : ∀ x, lo = some x → ∃ v, vlo = some v ∧ RelV w ok ι x v) (hlo' : lo = none → vlo = none)
    (hhi : ∀ x, hi = some x → ∃ v, vhi = some v ∧ RelV w ok ι x v) (hhi' : hi = none → vhi = none) {cut : Int → Int → AV} {full : Int → AV} {all r : AV} (h : sliceAt (N : Int) lo hi cut full all some = some r) :
    ∃ l u : Nat, l ≤ u ∧ u ≤ N ∧ (Instr.sliceBounds bs N cap vlo vhi none).run P w = .ok (l, u, cap) w ∧
      ((r = all ∧ l = 0 ∧ u = N) ∨ (∃ l' : Int, r = full l' ∧ l = l'.toNat ∧ u = N) ∨ (∃ l' u' : Int, r = cut l' u' ∧ l = l'.toNat ∧ u = u'.toNat)) := by
  unfold sliceAt at h
  split at h
  · injection h with h
    rw [hlo' rfl, hhi' rfl]
    exact ⟨0, N, Nat.zero_le _, Nat.le_refl _, by simp [Instr.sliceBounds], .inl ⟨h.symm, rfl, rfl⟩⟩
  · rename_i k l
    obtain ⟨v, e, hv⟩ := hlo _ rfl
    rw [rel_int] at hv
    subst hv
    rw [e, hhi' rfl]
    unfold sliceGo at h
    split at h
    · rename_i c1
      split at h
      · rename_i c2
        split at h
        · injection h with h
          refine ⟨Int.toNat l, N, Int.toNat_le.2 c2, Nat.le_refl _, ?_, .inr (.inl ⟨l, h.symm, rfl, rfl⟩)⟩
          simp [Instr.sliceBounds, run_sliceBound c1 c2]
        · cases h
      · cases h
    · cases h
  · rename_i k u
    obtain ⟨v, e, hv⟩ := hhi _ rfl
    rw [rel_int] at hv
    subst hv
    rw [e, hlo' rfl]
    unfold sliceGo at h
    split at h
    · split at h
      · rename_i c1 c2
        split at h
        · rename_i c3
          injection h with h
          have c4 : @LE.le Int _ u (cap : Int) := Int.le_trans c3 (Int.ofNat_le.2 hN)
          have c5 : Int.toNat u ≤ N := Int.toNat_le.2 c3
          refine ⟨0, Int.toNat u, Nat.zero_le _, c5, ?_, .inr (.inr ⟨0, u, h.symm, rfl, rfl⟩)⟩
          simp [Instr.sliceBounds, run_sliceBound c2 c4]
        · cases h
      · cases h
    · cases h
  · rename_i k l k' u
    obtain ⟨v, e, hv⟩ := hlo _ rfl
    rw [rel_int] at hv
    subst hv
    obtain ⟨v, e', hv⟩ := hhi _ rfl
    rw [rel_int] at hv
    subst hv
    rw [e, e']
    unfold sliceGo at h
    split at h
    · rename_i c1
      split at h
      · rename_i c2
        split at h
        · rename_i c3
          injection h with h
          have c0 : @LE.le Int _ 0 u := Int.le_trans c1 c2
          have c4 : @LE.le Int _ u (cap : Int) := Int.le_trans c3 (Int.ofNat_le.2 hN)
          have c5 : Int.toNat u ≤ N := Int.toNat_le.2 c3
          have c6 : Int.toNat l ≤ Int.toNat u := Int.toNat_le_toNat c2
          have c7 : @LE.le Int _ l (Int.toNat u : Int) := by rw [Int.toNat_of_nonneg c0]; exact c2
          refine ⟨Int.toNat l, Int.toNat u, c6, c5, ?_, .inr (.inr ⟨l, u, h.symm, rfl, rfl⟩)⟩
          simp [Instr.sliceBounds, run_sliceBound c0 c4, run_sliceBound c1 c7]
        · cases h
      · cases h
    · cases h
  · cases h

theorem slice_at {A : Option Addr} {l cap size : Nat} {g o : Nat} (hA : A = some ⟨g, o, none⟩) (hne : l < cap) : (if cap = l then A else A.map (·.add (l * size))) = some ⟨g, o + l * size, none⟩ := by
  rw [if_neg (by omega), hA]
  simp only [Option.map_some, addr_add]

theorem run_sliceAt_sl (hP : TabOK P TT) {tt e : Nat} {td : TD} (ht : TT tt = some td) (hk : td.k = .sl e) {A : Option Addr} {N cap l u : Nat} {vlo vhi : Option Value} (hs : (TT e).isSome = true)
    (hb : (Instr.sliceBounds true N cap vlo vhi none).run P w = .ok (l, u, cap) w) :
    (Instr.sliceAt tt (.slice A N cap) vlo vhi none).run P w = .ok (.slice (if cap = l then A else A.map (·.add (l * sizeT TT e))) (u - l) (cap - l)) w := by
  obtain ⟨te, he⟩ := Option.isSome_iff_exists.1 hs
  have hu := (hP tt td ht).und
  rw [hk] at hu
  have hu : P.underlying tt = some (.slice e) := hu
  simp [Instr.sliceAt, run_und hu, Instr.slice, hb, run_size hP he, sizeT, he]

theorem run_sliceAt_str {tt : Nat} (hu : P.underlying tt = some .string) {s : ByteArray} {l u m : Nat} {vlo vhi : Option Value} (hb : (Instr.sliceBounds false s.size s.size vlo vhi none).run P w = .ok (l, u, m) w) :
    (Instr.sliceAt tt (.string s) vlo vhi none).run P w = .ok (.string (s.extract l u)) w := by
  simp [Instr.sliceAt, run_und hu, Instr.slice, hb]

theorem extract_mk (s : List UInt8) (l u : Nat) : (⟨s.toArray⟩ : ByteArray).extract l u = ⟨((s.take u).drop l).toArray⟩ := by
  apply ByteArray.ext
  rw [ByteArray.data_extract]
  simp [List.drop_take]

theorem sl_cut {ok : Nat → Prop} {t : Ty} {xs : List t.den} {A : Option Addr} {c l u : Nat} (h : Rz w ok (.sl t) xs [.slice A xs.length c]) (hlu : l ≤ u) (hu : u ≤ xs.length) :
    Rz w ok (.sl t) ((xs.take u).drop l) [.slice (if c = l then A else A.map (·.add (l * t.size))) (u - l) (c - l)] := by
  obtain ⟨A', c', e, h1, h2⟩ := h
  injection e with e _
  injection e with e1 _ e3
  subst e1; subst e3
  have hlen : ((xs.take u).drop l).length = u - l := by rw [List.length_drop, List.length_take, Nat.min_eq_left hu]
  refine ⟨_, _, by rw [hlen], by rw [hlen]; omega, fun hp => ?_⟩
  rw [hlen] at hp
  obtain ⟨g, o, cs, q1, q2, q3, q4⟩ := h2 (by omega)
  refine ⟨g, o + l * t.size, (cs.take (u * t.size)).drop (l * t.size), slice_at q1 (by omega), q2, RzL_drop (Rz_length t) l (RzL_take (Rz_length t) u q3), fun j v hv => ?_⟩
  rw [List.getElem?_drop, List.getElem?_take] at hv
  split at hv
  · rw [Nat.add_assoc]
    exact q4 _ v hv
  · cases hv

theorem sl_drop {ok : Nat → Prop} {t : Ty} {xs : List t.den} {A : Option Addr} {c l : Nat} (h : Rz w ok (.sl t) xs [.slice A xs.length c]) (hl : l ≤ xs.length) :
    Rz w ok (.sl t) (xs.drop l) [.slice (if c = l then A else A.map (·.add (l * t.size))) (xs.length - l) (c - l)] := by
  have := sl_cut h hl (Nat.le_refl _)
  rwa [List.take_length] at this

theorem row_zero (h : HRel X keep w0 ι C w) {b : Nat} {t : Ty} {e : Nat} {xs : List t.den} {rw : Bool} (hb : C b = .row t e xs rw) {A : Option Addr} {n c g o : Nat} (e1 : ι b = some (.slice A n c)) (p1 : A = some ⟨g, o, none⟩) : o = 0 := by
  have hB := h.bl b
  rw [hb] at hB
  subst p1
  cases rw with
  | false =>
    obtain ⟨v, h1, h2, _⟩ := hB
    rw [e1] at h1
    injection h1 with h1
    subst h1
    exact h2.1
  | true =>
    obtain ⟨v, cs, h1, h2, _⟩ := hB
    rw [e1] at h1
    injection h1 with h1
    subst h1
    rcases h2.2 with ⟨h4, _⟩ | ⟨g', cap, cur, hv, _⟩
    · cases h4
    · injection hv with hv
      injection hv with hv
      injection hv

theorem slice_op (hP : TabOK P TT) (h : HRel X keep w0 ι C w) {tt : Nat} {x : AV} {vx : Value} (hx : RelV w (okb X w ι C) ι x vx) {lo hi : Option AV} {vlo vhi : Option Value}
    (hlo : ∀ x, lo = some x → ∃ v, vlo = some v ∧ RelV w (okb X w ι C) ι x v) (hlo' : lo = none → vlo = none) (hhi : ∀ x, hi = some x → ∃ v, vhi = some v ∧ RelV w (okb X w ι C) ι x v) (hhi' : hi = none → vhi = none)
    {r : AV} (hs : sliceOp TT tt C x lo hi some = some r) : ∃ v, (Instr.sliceAt tt vx vlo vhi none).run P w = .ok v w ∧ RelV w (okb X w ι C) ι r v := by
  unfold sliceOp at hs
  split at hs
  · rename_i td htd
    split at hs
    · rename_i s hk
      have hu := (hP tt td htd).und
      rw [hk] at hu
      rw [rel_str] at hx
      subst hx
      obtain ⟨l, u, q1, q2, q3, q4⟩ := sliceAt_sound (P := P) (bs := false) (cap := s.length) (Nat.le_refl _) hlo hlo' hhi hhi' hs
      have q3' : (Instr.sliceBounds false (⟨s.toArray⟩ : ByteArray).size (⟨s.toArray⟩ : ByteArray).size vlo vhi none).run P w = .ok (l, u, s.length) w := by rw [size_mk]; exact q3
      refine ⟨_, run_sliceAt_str hu q3', ?_⟩
      rw [extract_mk]
      rcases q4 with ⟨e, rfl, rfl⟩ | ⟨l', e, rfl, rfl⟩ | ⟨l', u', e, rfl, rfl⟩
      · subst e
        rw [rel_str]
        simp
      · subst e
        rw [rel_str]
        simp
      · subst e
        rw [rel_str]
    · rename_i e t xs hk
      split at hs
      · rename_i hsz
        rw [Bool.and_eq_true] at hsz
        obtain ⟨hes, hsz⟩ := hsz
        have hsz := Nat.eq_of_beq_eq_true hsz
        simp only [RelV] at hx
        obtain ⟨A, c, e1, e2, e3⟩ := hx
        have e0 := e1
        injection e1 with e1 _
        subst e1
        obtain ⟨l, u, q1, q2, q3, q4⟩ := sliceAt_sound (P := P) (bs := true) (cap := c) e2 hlo hlo' hhi hhi' hs
        refine ⟨_, run_sliceAt_sl hP htd hk hes q3, ?_⟩
        rw [← hsz]
        have hR : Rz w (okb X w ι C) (.sl t) xs [.slice A xs.length c] := ⟨A, c, rfl, e2, e3⟩
        rcases q4 with ⟨e, rfl, rfl⟩ | ⟨l', e, rfl, rfl⟩ | ⟨l', u', e, rfl, rfl⟩
        · subst e
          simp only [RelV]
          have := sl_drop hR (Nat.zero_le _)
          simpa using this
        · subst e
          simp only [RelV]
          exact sl_drop hR q1
        · subst e
          simp only [RelV]
          exact sl_cut hR q1 q2
      · cases hs
    · rename_i e b hk
      split at hs
      · rename_i t _ xs _ hb
        split at hs
        · rename_i hsz
          rw [Bool.and_eq_true] at hsz
          obtain ⟨hes, hsz⟩ := hsz
          have hsz := Nat.eq_of_beq_eq_true hsz
          obtain ⟨A, c, e1, e2, e3⟩ := row_cells h hb
          simp only [RelV] at hx
          obtain ⟨hx1, _⟩ := hx
          rw [e1] at hx1
          injection hx1 with hx1
          subst hx1
          obtain ⟨l, u, q1, q2, q3, q4⟩ := sliceAt_sound (P := P) (bs := true) (cap := c) e2 hlo hlo' hhi hhi' hs
          refine ⟨_, run_sliceAt_sl hP htd hk hes q3, ?_⟩
          rw [← hsz]
          have hrs : RelV w (okb X w ι C) ι (.rs b t.size l (u - l)) (.slice (if c = l then A else A.map (·.add (l * t.size))) (u - l) (c - l)) := by
            simp only [RelV]
            refine ⟨A, xs.length, c, _, _, e1, by omega, rfl, by omega, fun hp => ?_, fun hl => ?_⟩
            · obtain ⟨g, o, cs, p1, p2, p3⟩ := e3 (by omega)
              have ho : o = 0 := by
                exact row_zero h hb e1 p1
              subst ho
              exact ⟨g, p1, by rw [slice_at p1 (by omega), Nat.zero_add]⟩
            · subst hl
              refine ⟨?_, by omega⟩
              split
              · rfl
              · cases A <;> simp [Addr.add]
          rcases q4 with ⟨e, rfl, rfl⟩ | ⟨l', e, rfl, rfl⟩ | ⟨l', u', e, rfl, rfl⟩
          · subst e
            simp only [RelV]
            refine ⟨?_, _, _, _, rfl⟩
            rw [e1]
            have : (if c = 0 then A else A.map (·.add (0 * t.size))) = A := by
              split
              · rfl
              · cases A <;> simp [Addr.add]
            rw [this]
            rfl
          · subst e
            exact hrs
          · subst e
            exact hrs
        · cases hs
      · cases hs
    · rename_i e b sz off len hk
      split at hs
      · rename_i hsz
        rw [Bool.and_eq_true] at hsz
        obtain ⟨hes, hsz⟩ := hsz
        have hsz := Nat.eq_of_beq_eq_true hsz
        have hx0 := hx
        simp only [RelV] at hx
        obtain ⟨A, n, c, A', c', e1, e2, e3, e4, e5⟩ := hx
        subst e3
        obtain ⟨l, u, q1, q2, q3, q4⟩ := sliceAt_sound (P := P) (bs := true) (cap := c') e4 hlo hlo' hhi hhi' hs
        refine ⟨_, run_sliceAt_sl hP htd hk hes q3, ?_⟩
        rw [← hsz]
        have hrs : RelV w (okb X w ι C) ι (.rs b sz (off + l) (u - l)) (.slice (if c' = l then A' else A'.map (·.add (l * sz))) (u - l) (c' - l)) := by
          simp only [RelV]
          refine ⟨A, n, c, _, _, e1, by omega, rfl, by omega, fun hp => ?_, fun hl => ?_⟩
          · obtain ⟨g, p1, p2⟩ := e5.1 (by omega)
            exact ⟨g, p1, by rw [slice_at p2 (by omega), Nat.add_mul]⟩
          · have hl1 : off = 0 := by omega
            have hl2 : l = 0 := by omega
            obtain ⟨p1, p2⟩ := e5.2 hl1
            subst hl2
            refine ⟨?_, by omega⟩
            rw [p1]
            split
            · rfl
            · cases A <;> simp [Addr.add]
        rcases q4 with ⟨e, rfl, rfl⟩ | ⟨l', e, rfl, rfl⟩ | ⟨l', u', e, rfl, rfl⟩
        · subst e
          have : (if c' = 0 then A' else A'.map (·.add (0 * sz))) = A' := by
            split
            · rfl
            · cases A' <;> simp [Addr.add]
          rw [this]
          exact hx0
        · subst e
          exact hrs
        · subst e
          exact hrs
      · cases hs
    · cases hs
  · cases hs
end
end Go.Proofs.Rf
