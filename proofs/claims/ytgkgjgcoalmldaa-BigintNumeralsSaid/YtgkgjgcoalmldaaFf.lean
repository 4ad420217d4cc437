/- Rf, part f: stores and new memory. -/
import Derived.Test.YtgkgjgcoalmldaaFe
import Derived.Laws.CopyRow
import Derived.Laws.IdiomCopy
namespace Go.Proofs.Rf
open Go Go.RowKit

theorem RzL_at {α : Type} {D : α → List Value → Prop} {n : Nat} (hD : ∀ x us, D x us → us.length = n) : ∀ {xs : List α} {cs : List Value} (i : Nat), RzL D xs cs → (hi : i < xs.length) →
    ∃ A us B, cs = A ++ us ++ B ∧ A.length = i * n ∧ D xs[i] us ∧ ∀ y us', D y us' → RzL D (xs.set i y) (A ++ us' ++ B)
  | [], _, i, _, hi => by simp at hi
  | x :: r, _, 0, ⟨us, vr, e, hx, hr⟩, hi => ⟨[], us, vr, by rw [e]; rfl, by simp, hx, fun y us' hy => ⟨us', vr, by rfl, hy, hr⟩⟩
  | x :: r, _, i + 1, ⟨us, vr, e, hx, hr⟩, hi => by
    obtain ⟨A, us1, B, h1, h2, h3, h4⟩ := RzL_at hD i hr (by simpa using hi)
    refine ⟨us ++ A, us1, B, by rw [e, h1]; simp [List.append_assoc], by rw [List.length_append, hD _ _ hx, h2, Nat.add_mul]; omega, h3, fun y us' hy => ?_⟩
    exact ⟨us, A ++ us' ++ B, by simp [List.append_assoc], hx, h4 y us' hy⟩

section
variable {X keep : Nat → Prop} {w0 w : World} {ι : Nat → Option Value} {C : Nat → Blk} {P : Program} {TT : Tab}

theorem one_ne {a : AV} (h : allOne (cellsOf a) = true) : a ≠ .un ∧ a ≠ .ud := by
  constructor <;> rintro rfl <;> simp [cellsOf, allOne, AV.one] at h

theorem run_storeAt {tt : Nat} {td : TD} (hP : TabOK P TT) (htt : TT tt = some td) {g o : Nat} {v : Value} {cur : Array Value} {e : Nat} (hs : v.cells.size = td.size) (hg : w.heap[g]? = some (.cells cur e (0, 0)))
    (ho : o + v.cells.size ≤ cur.size) (h1 : ∀ u ∈ v.cells.toList, u.oneCell' = true) :
    (Instr.storeAt tt (.pointer (some ⟨g, o, none⟩)) v).run P w = .ok () (w.setRow g (cur.toList.take o ++ v.cells.toList ++ cur.toList.drop (o + v.cells.toList.length)).toArray) := by
  have h2 := run_storeCells_at (P := P) g o e v.cells.toList 0 cur w hg (by simpa using ho) h1
  simp only [Nat.add_zero] at h2
  simp only [Instr.storeAt, Instr.sureAddr, storeVar, Sem.run_bind, Sem.run_pure, run_size hP htt, Result.andThen_ok, ne_eq, hs, not_true, if_false, h2]

theorem RelL_splice {ok : Nat → Prop} {cs ds : List AV} {us vs : List Value} (h : RelL w ok ι cs us) (k : RelL w ok ι ds vs) (o : Nat) : RelL w ok ι (splice cs o ds) (us.take o ++ vs ++ us.drop (o + vs.length)) := by
  unfold splice
  rw [← RelL_length k]
  exact RelL_append (RelL_append (RelL_take h o) k) (RelL_drop h _)

/-- A box is written. -/
theorem store_box (hP : TabOK P TT) (h : HRel X keep w0 ι C w) {tt : Nat} {b o' nb : Nat} {x : AV} {va vx : Value} (ha : RelV w (okb X w ι C) ι (.pt b o') va) (hx : RelV w (okb X w ι C) ι x vx) {cs : List AV} (hb : C b = .box cs)
    (hc : ((TT tt).isSome && allOne (cellsOf x) && Nat.beq (cellsOf x).length (sizeT TT tt) && Nat.ble (o' + (cellsOf x).length) cs.length) = true) :
    ∃ w', (Instr.storeAt tt va vx).run P w = .ok () w' ∧ Out X keep w0 ι C w nb ⟨.un, [(b, .box (splice cs o' (cellsOf x)))], []⟩ undef w' := by
  simp only [Bool.and_eq_true] at hc
  obtain ⟨⟨⟨c1, c2⟩, c3⟩, c4⟩ := hc
  have c3 := Nat.eq_of_beq_eq_true c3
  have c4 := Nat.le_of_ble_eq_true c4
  obtain ⟨td, htd⟩ := Option.isSome_iff_exists.1 c1
  rw [show sizeT TT tt = td.size by simp [sizeT, htd]] at c3
  obtain ⟨n1, n2⟩ := one_ne c2
  have hcl := RelV_cells hx n1 n2
  have hlen := RelL_length hcl
  simp only [Array.length_toList] at hlen
  obtain ⟨g, e, us, h1, h2, h3⟩ := box_cells h hb
  have hul := RelL_length h3
  simp only [RelV] at ha
  obtain ⟨g', h4, h5⟩ := ha
  rw [h1] at h4
  injection h4 with h4
  injection h4 with h4
  injection h4 with h4
  injection h4 with h4
  subst h4
  subst h5
  refine ⟨_, run_storeAt hP htd (by omega) h2 (by simp; omega) (allOne_sound c2 hcl), ι, ?_⟩
  have hbk : bk ι C b = some g := by unfold bk; rw [hb, h1]
  have hbk' : bk ι (setC C b (.box (splice cs o' (cellsOf x)))) b = some g := by unfold bk; rw [setC_self, h1]
  have := h.step (C' := setC C b (.box (splice cs o' (cellsOf x)))) (ι' := ι) (w' := w.setRow g (us.toArray.toList.take o' ++ vx.cells.toList ++ us.toArray.toList.drop (o' + vx.cells.toList.length)).toArray) (fun j => j = b) rfl rfl rfl (by simp)
    (fun j hj => setC_ne hj) (fun _ _ q => q) (fun _ _ => rfl) (fun k b' hk q => by
      subst hk
      rw [hbk'] at q
      injection q with q
      subst q
      exact .inr ⟨_, rfl, hbk⟩) (fun k k' b' hk hk' _ _ => hk.trans hk'.symm) (fun b' hb' hk => setRow_other _ _ _ _ (by rintro rfl; exact hk b rfl hbk)) (fun hext k hk => by
      subst hk
      rw [setC_self]
      refine ⟨g, e, us.take o' ++ vx.cells.toList ++ us.drop (o' + vx.cells.toList.length), h1, setRow_heap _ _ _ _ _ _ h2, ?_⟩
      exact RelL_splice (hext.vals h3) (hext.vals hcl) o')
  exact ⟨this.1, this.2, by simp only [RelV], fun _ _ => rfl⟩

/-- An element of a row of the call's own is written. -/
theorem store_row (hP : TabOK P TT) (h : HRel X keep w0 ι C w) {tt : Nat} {b sz i o' nb : Nat} {x : AV} {va vx : Value} (ha : RelV w (okb X w ι C) ι (.pe b sz i o') va) (hx : RelV w (okb X w ι C) ι x vx) {t : Ty} {e : Nat} {xs : List t.den} (hb : C b = .row t e xs true)
    (hc : (Nat.beq sz t.size && (TT tt).isSome && allOne (cellsOf x) && Nat.beq (cellsOf x).length (sizeT TT tt) && Nat.ble (o' + (cellsOf x).length) t.size) = true) {y : t.den} (hp : pack C t (splice (unpack t (xs.getD i t.dflt)) o' (cellsOf x)) = some (y, [], [])) :
    ∃ w', (Instr.storeAt tt va vx).run P w = .ok () w' ∧ Out X keep w0 ι C w nb ⟨.un, [(b, .row t e (xs.set i y) true)], []⟩ undef w' := by
  simp only [Bool.and_eq_true] at hc
  obtain ⟨⟨⟨⟨c0, c1⟩, c2⟩, c3⟩, c4⟩ := hc
  have c0 := Nat.eq_of_beq_eq_true c0
  subst c0
  have c3 := Nat.eq_of_beq_eq_true c3
  have c4 := Nat.le_of_ble_eq_true c4
  obtain ⟨td, htd⟩ := Option.isSome_iff_exists.1 c1
  rw [show sizeT TT tt = td.size by simp [sizeT, htd]] at c3
  obtain ⟨n1, n2⟩ := one_ne c2
  have hcl := RelV_cells hx n1 n2
  have hlen := RelL_length hcl
  simp only [Array.length_toList] at hlen
  have hB := h.bl b
  rw [hb] at hB
  obtain ⟨v, cs, h1, h2, h3⟩ := hB
  simp only [RelV] at ha
  obtain ⟨g, n, c, h4, h5, h6⟩ := ha
  subst h6
  rw [h1] at h4
  injection h4 with h4
  subst h4
  rcases h2.2 with ⟨h7, _⟩ | ⟨g', cap, cur, hv, _, q2, q3, q4, q5, q6⟩
  · cases h7
  injection hv with p1 p2 p3
  injection p1 with p1
  injection p1 with p1 _ _
  subst p1; subst p2; subst p3
  obtain ⟨A, us, B, r1, r2, r3, r4⟩ := RzL_at (Rz_length t) i h3 h5
  have hx0 : xs.getD i t.dflt = xs[i] := by rw [List.getD_eq_getElem?_getD, List.getElem?_eq_getElem h5]; rfl
  rw [hx0] at hp
  have hul := Rz_length t _ _ r3
  have hcur : cur.toList = A ++ us ++ B ++ cur.toList.drop (xs.length * t.size) := by
    conv => lhs; rw [← List.take_append_drop (xs.length * t.size) cur.toList]
    rw [q6, r1]
  have hcl2 : RelL w (okb X w ι C) ι (splice (unpack t xs[i]) o' (cellsOf x)) (us.take o' ++ vx.cells.toList ++ us.drop (o' + vx.cells.toList.length)) := RelL_splice (RelL_unpack t _ us r3) hcl o'
  obtain ⟨_, u1, u2, z1, z2, z3⟩ := pack_sound (C := C) t C _ _ h (FrozenOf.refl C) hcl2 _ _ _ hp
  rw [RelL_nil.1 z3, List.append_nil] at z1
  rw [← z1] at z2
  have z2 : Rz w (okb X w ι C) t y (us.take o' ++ vx.cells.toList ++ us.drop (o' + vx.cells.toList.length)) := z2
  have hvl : vx.cells.toList.length = vx.cells.size := Array.length_toList
  have hcl3 := congrArg List.length hcur
  have hdl : i * t.size + o' + vx.cells.size ≤ cur.size := by
    simp only [List.length_append, Array.length_toList] at hcl3
    omega
  have hnew : (cur.toList.take (i * t.size + o') ++ vx.cells.toList ++ cur.toList.drop (i * t.size + o' + vx.cells.toList.length)) =
      A ++ (us.take o' ++ vx.cells.toList ++ us.drop (o' + vx.cells.toList.length)) ++ B ++ cur.toList.drop (xs.length * t.size) := by
    generalize cur.toList.drop (xs.length * t.size) = D at hcur
    rw [hcur, ← r2]
    have e1 : (A ++ us ++ B ++ D).take (A.length + o') = A ++ us.take o' := by
      rw [List.append_assoc, List.append_assoc, List.take_length_add_append, List.take_append_of_le_length (by omega)]
    have e2 : (A ++ us ++ B ++ D).drop (A.length + o' + vx.cells.toList.length) = us.drop (o' + vx.cells.toList.length) ++ B ++ D := by
      rw [Nat.add_assoc, List.append_assoc, List.append_assoc, List.drop_length_add_append, List.drop_append_of_le_length (by omega), List.append_assoc]
    rw [e1, e2]
    simp only [List.append_assoc]
  refine ⟨_, run_storeAt hP htd (by omega) q2 hdl (allOne_sound c2 hcl), ι, ?_⟩
  have hbk : bk ι C b = some g := by unfold bk; rw [hb, h1]; rfl
  have hbk' : bk ι (setC C b (.row t e (xs.set i y) true)) b = some g := by unfold bk; rw [setC_self, h1]; rfl
  have := h.step (C' := setC C b (.row t e (xs.set i y) true)) (ι' := ι) (w' := w.setRow g (cur.toList.take (i * t.size + o') ++ vx.cells.toList ++ cur.toList.drop (i * t.size + o' + vx.cells.toList.length)).toArray) (fun j => j = b) rfl rfl rfl (by simp)
    (fun j hj => setC_ne hj) (fun _ _ q => q) (fun _ _ => rfl) (fun k b' hk q => by
      subst hk
      rw [hbk'] at q
      injection q with q
      subst q
      exact .inr ⟨_, rfl, hbk⟩) (fun k k' b' hk hk' _ _ => hk.trans hk'.symm) (fun b' hb' hk => setRow_other _ _ _ _ (by rintro rfl; exact hk b rfl hbk)) (fun hext k hk => by
      subst hk
      rw [setC_self]
      have hR := RzL_mono (fun x us hx => hext.data hx) (r4 y _ z2)
      refine ⟨.slice (some ⟨g, 0, none⟩) xs.length c, A ++ (us.take o' ++ vx.cells.toList ++ us.drop (o' + vx.cells.toList.length)) ++ B, h1, ?_, hR⟩
      have hlen2 := RzL_length (Rz_length t) hR
      rw [List.length_set] at hlen2 ⊢
      refine ⟨hlen2, .inr ⟨g, c, _, rfl, Nat.zero_le _, setRow_heap _ _ _ _ _ _ q2, q3, q4, ?_, ?_⟩⟩
      · have hL := congrArg List.length hnew
        have hL2 := congrArg List.length hcur
        simp only [List.length_append, List.length_take, List.length_drop, Array.length_toList] at hL hL2 ⊢
        simp only [List.size_toArray, List.length_append, List.length_take, List.length_drop, Array.length_toList]
        omega
      · rw [hnew]
        simp only []
        rw [List.take_left' hlen2])
  exact ⟨this.1, this.2, by simp only [RelV], fun _ _ => rfl⟩

/-- Elements are copied into a row of the call's own. -/
theorem copy_op (hP : TabOK P TT) (h : HRel X keep w0 ι C w) {tt e b off len nb : Nat} {td te : TD} (htd : TT tt = some td) (hk : td.k = .sl e) (hte : TT e = some te) (hsz : te.size = 1) {t : Ty} (ht : t.size = 1) {e' : Nat} {xs : List t.den} (hb : C b = .row t e' xs true)
    {vd vs : Value} {ys : List t.den} (hd : RelV w (okb X w ι C) ι (.rs b 1 off len) vd) (hs : Rz w (okb X w ι C) (.sl t) ys [vs]) (st ty : Nat) :
    ∃ v w', (Builtin.copy_ #[tt, st] ty #[vd, vs]).run P w = .ok v w' ∧ Out X keep w0 ι C w nb ⟨.d (.int .i64) ((min ys.length len : Nat) : Int), [(b, .row t e' (xs.take off ++ ys.take len ++ xs.drop (off + min ys.length len)) true)], []⟩ v w' := by
  have hu : P.underlying tt = some (.slice e) := by
    have := (hP tt td htd).und
    rw [hk] at this
    exact this
  have hsi : (P.info? e).map (·.size) = some 1 := by
    obtain ⟨i, z, h1, h2, _⟩ := (hP e te hte).ex
    rw [h1]
    simp [h2, hsz]
  obtain ⟨A2, c2, e1, e2, e3⟩ := hs
  have e1 : vs = .slice A2 ys.length c2 := by injection e1
  subst e1
  simp only [RelV] at hd
  obtain ⟨A1, n, c, A', c', h1, h2, h3, h4, h5⟩ := hd
  subst h3
  rcases Nat.eq_zero_or_pos (min ys.length len) with hm | hm
  · refine ⟨_, w, run_copy_none w tt st ty e A' A2 len c' ys.length c2 hu hsi hm, ?_⟩
    have hx : xs.take off ++ ys.take len ++ xs.drop (off + min ys.length len) = xs := by
      have : ys.take len = [] := by
        rw [← List.length_eq_zero_iff, List.length_take, Nat.min_comm]
        exact hm
      rw [this, hm, List.append_nil, Nat.add_zero, List.take_append_drop]
    rw [hx, hm]
    have hC : setC C b (.row t e' xs true) = C := by
      funext j
      unfold setC
      split
      · rename_i hj; rw [hj, hb]
      · rfl
    refine ⟨ι, ?_, ?_, ?_, fun _ _ => rfl⟩
    · show HRel X keep w0 ι (setC C b (.row t e' xs true)) w
      rw [hC]; exact h
    · show Ext X ι C w ι (setC C b (.row t e' xs true)) w
      rw [hC]; exact Ext.refl _ _ _ _
    · simp only [RelV]
      rfl
  · obtain ⟨g, k1, k2⟩ := h5.1 (by omega)
    subst k2
    obtain ⟨g2, o2, cs2, q1, q2, q3, q4⟩ := e3 (by omega)
    subst q1
    have hB := h.bl b
    rw [hb] at hB
    obtain ⟨v0, cs, r1, r2, r3⟩ := hB
    rw [r1] at h1
    injection h1 with h1
    subst h1
    subst k1
    rcases r2.2 with ⟨r4, _⟩ | ⟨g', cap, cur, hv, _, p2, p3, p4, p5, p6⟩
    · cases r4
    injection hv with z1 z2 z3
    injection z1 with z1
    injection z1 with z1 _ _
    subst z1; subst z2; subst z3
    rw [ht, Nat.mul_one] at p5 p6
    have hl2 := RzL_length (Rz_length t) q3
    rw [ht, Nat.mul_one] at hl2
    have hcl : (cs2.take len).length = min ys.length len := by rw [List.length_take, hl2, Nat.min_comm]
    have hcl' : min ys.length len ≤ len := Nat.min_le_right _ _
    have hrun := run_copy_row (P := P) w tt st ty e g off len c' ⟨g2, o2, none⟩ ys.length c2 cur e' (cs2.take len) hu hsi p2 hcl (fun j v hj => by
      rw [addr_add]
      refine q4 j v ?_
      rw [List.getElem?_take] at hj
      split at hj
      · exact hj
      · cases hj) (by rw [hcl]; omega) (fun v hv => RzL_one q3 v (List.mem_of_mem_take hv))
    rw [Nat.mul_one]
    refine ⟨_, _, hrun, ι, ?_⟩
    have hbk : bk ι C b = some g := by unfold bk; rw [hb, r1]; rfl
    have hbk' : bk ι (setC C b (.row t e' (xs.take off ++ ys.take len ++ xs.drop (off + min ys.length len)) true)) b = some g := by unfold bk; rw [setC_self, r1]; rfl
    have hcs : cs.length = xs.length := by have := r2.1; rw [ht, Nat.mul_one] at this; exact this
    have hcur : cur.toList = cs ++ cur.toList.drop xs.length := by
      conv => lhs; rw [← List.take_append_drop xs.length cur.toList]
      rw [p6]
    have hnew : cur.toList.take off ++ cs2.take len ++ cur.toList.drop (off + (cs2.take len).length) = (cs.take off ++ cs2.take len ++ cs.drop (off + min ys.length len)) ++ cur.toList.drop xs.length := by
      rw [hcl]
      generalize cur.toList.drop xs.length = D at hcur
      rw [hcur, List.take_append_of_le_length (by omega), List.drop_append_of_le_length (by omega)]
      simp only [List.append_assoc]
    have hlen : (xs.take off ++ ys.take len ++ xs.drop (off + min ys.length len)).length = xs.length := by
      simp only [List.length_append, List.length_take, List.length_drop]
      omega
    have := h.step (C' := setC C b (.row t e' (xs.take off ++ ys.take len ++ xs.drop (off + min ys.length len)) true)) (ι' := ι) (w' := w.setRow g (cur.toList.take off ++ cs2.take len ++ cur.toList.drop (off + (cs2.take len).length)).toArray) (fun j => j = b) rfl rfl rfl (by simp)
      (fun j hj => setC_ne hj) (fun _ _ q => q) (fun _ _ => rfl) (fun k b' hk q => by
        subst hk
        rw [hbk'] at q
        injection q with q
        subst q
        exact .inr ⟨_, rfl, hbk⟩) (fun k k' b' hk hk' _ _ => hk.trans hk'.symm) (fun b' hb' hk => setRow_other _ _ _ _ (by rintro rfl; exact hk b rfl hbk)) (fun hext k hk => by
        subst hk
        rw [setC_self]
        have t1 := RzL_take (Rz_length t) off r3
        have t2 := RzL_take (Rz_length t) len q3
        have t3 := RzL_drop (Rz_length t) (off + min ys.length len) r3
        rw [ht, Nat.mul_one] at t1 t2 t3
        have hR := RzL_mono (fun x us hx => hext.data hx) (RzL_append (RzL_append t1 t2) t3)
        refine ⟨.slice (some ⟨g, 0, none⟩) xs.length c, cs.take off ++ cs2.take len ++ cs.drop (off + min ys.length len), r1, ?_, hR⟩
        have hl3 : (cs.take off ++ cs2.take len ++ cs.drop (off + min ys.length len)).length = xs.length := by
          simp only [List.length_append, hcl, List.length_take, List.length_drop]
          omega
        rw [hlen]
        refine ⟨by rw [ht, Nat.mul_one]; exact hl3, .inr ⟨g, c, _, rfl, Nat.zero_le _, setRow_heap _ _ _ _ _ _ p2, p3, p4, ?_, ?_⟩⟩
        · have hct : cur.toList.length = cur.size := Array.length_toList
          rw [ht, Nat.mul_one, List.size_toArray, hnew, List.length_append, hl3, List.length_drop]
          omega
        · rw [ht, Nat.mul_one, hnew]
          simp only []
          rw [List.take_left' hl3])
    exact ⟨this.1, this.2, by simp only [RelV]; rw [hcl]; rfl, fun _ _ => rfl⟩
end
end Go.Proofs.Rf
