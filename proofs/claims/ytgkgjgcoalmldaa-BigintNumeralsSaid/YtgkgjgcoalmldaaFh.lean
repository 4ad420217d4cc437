/- Rf, part h: literals of slices; append. -/
import Derived.Test.YtgkgjgcoalmldaaFg
namespace Go.Proofs.Rf
open Go Go.RowKit

section
variable {X keep : Nat → Prop} {w0 w : World} {ι : Nat → Option Value} {C C0 : Nat → Blk} {P : Program} {TT : Tab}

theorem packAll_sound {T : Nat → AV} {a : Act} {t : Ty} : ∀ (ps : List (Nat × Operand)) (n i : Nat) (C0 : Nat → Blk) (xs : List t.den) (f : List (Nat × Blk)),
    HRel X keep w0 ι C0 w → FrozenOf C C0 → (∀ t, RelV w (okb X w ι C0) ι (T t) (a.tmps.getD t undef)) → packAll C t n i (ps.map fun p => (p.1, ev T p.2)) = some (xs, f) →
    Frz X keep w0 ι C C0 w f ∧ (ps.map fun p => (p.1, a.eval p.2)) = ((ps.map fun p => a.eval p.2).zipIdx i).map (fun x => (x.2, x.1)) ∧ xs.length = n ∧ ps.length = n ∧
      RzL (Rz w (okb X w ι (updC C0 f)) t) xs ((ps.map fun p => a.eval p.2).flatMap fun v => v.cells.toList) ∧ ∀ v ∈ ps.map (fun p => a.eval p.2), v.cells.size = t.size
  | [], 0, i, C0, xs, f, h, hf, hT, hp => by
    simp only [List.map_nil, packAll, Option.some.injEq, Prod.mk.injEq] at hp
    obtain ⟨rfl, rfl⟩ := hp
    exact ⟨Frz.nil h hf, rfl, rfl, rfl, rfl, by simp⟩
  | [], n + 1, i, C0, xs, f, h, hf, hT, hp => by simp [packAll] at hp
  | p :: r, 0, i, C0, xs, f, h, hf, hT, hp => by simp [packAll] at hp
  | (j, x) :: r, n + 1, i, C0, xs, f, h, hf, hT, hp => by
    simp only [List.map_cons, packAll] at hp
    split at hp
    · rename_i hij
      have hij := Nat.eq_of_beq_eq_true hij
      subst hij
      split at hp
      · rename_i y f1 h1
        split at hp
        · rename_i ys f2 h2
          injection hp with hp
          injection hp with q1 q2
          subst q1; subst q2
          obtain ⟨⟨g1, g2, g3⟩, g4⟩ := dat_sound h hf (ev_rel hT x) h1
          obtain ⟨⟨k1, k2, k3⟩, k4, k5, k6, k7, k8⟩ := packAll_sound r n (i + 1) _ ys f2 g1 g2 (fun t => g3.val (hT t)) h2
          refine ⟨⟨?_, ?_, ?_⟩, ?_, by simp [k5], by simp [k6], ?_, ?_⟩
          · rw [updC_append]; exact k1
          · rw [updC_append]; exact k2
          · rw [updC_append]; exact g3.trans k3
          · simp only [List.map_cons, List.zipIdx_cons, k4]
          · rw [updC_append]
            simp only [List.map_cons, List.flatMap_cons]
            exact ⟨_, _, rfl, k3.data g4, k7⟩
          · intro v hv
            rcases List.mem_cons.1 hv with rfl | hv
            · have := Rz_length t _ _ g4
              rwa [Array.length_toList] at this
            · exact k8 v hv
        · cases hp
      · cases hp
    · cases hp

theorem buildSlice_op (hP : TabOK P TT) (h : HRel X keep w0 ι C w) {nb : Nat} (hn : ι nb = none) {tt e len : Nat} {td te : TD} (ht : TT tt = some td) (hk : td.k = .sl e) (he : TT e = some te) {ty : Ty} (hty : te.ty = some ty)
    {T : Nat → AV} {a : Act} (hT : ∀ t, RelV w (okb X w ι C) ι (T t) (a.tmps.getD t undef)) {parts : Array (Nat × Operand)} {xs : List ty.den} {f : List (Nat × Blk)}
    (hp : packAll C ty len 0 (parts.toList.map fun p => (p.1, ev T p.2)) = some (xs, f)) (hc : (Nat.blt 0 ty.size && Nat.ble (len * ty.size) 16777216) = true) :
    ∃ v w', (Instr.buildSlice tt len (parts.map fun (i, x) => (i, a.eval x))).run P w = .ok v w' ∧ Out X keep w0 ι C w nb ⟨.rf nb, f, [.row ty e xs true]⟩ v w' := by
  simp only [Bool.and_eq_true] at hc
  obtain ⟨c1, c2⟩ := hc
  have c1 : 0 < ty.size := Nat.le_of_ble_eq_true c1
  have c2 := Nat.le_of_ble_eq_true c2
  obtain ⟨i, z, i1, i2, i3, i4, i5, i6, i7⟩ := (hP e te he).ex
  obtain ⟨j1, j2⟩ := i7 ty hty
  have hu := (hP tt td ht).und
  rw [hk] at hu
  have hu : P.underlying tt = some (.slice e) := hu
  obtain ⟨⟨g1, g2, g3⟩, g4, g5, g6, g7, g8⟩ := packAll_sound parts.toList len 0 C xs f h (FrozenOf.refl C) hT hp
  have hzl := Rz_length ty _ _ (j2 w (okb X w ι C))
  rw [Array.length_toList] at hzl
  have hparts : (parts.map fun (i, x) => (i, a.eval x)).toList = ((parts.toList.map fun p => a.eval p.2).zipIdx 0).map (fun x => (x.2, x.1)) := by
    rw [← g4, Array.toList_map]
  have hlen : (parts.toList.map fun p => a.eval p.2).length = len := by simpa using g6
  have hrun : (Instr.buildSlice tt len (parts.map fun (i, x) => (i, a.eval x))).run P w =
      .ok (.slice (some ⟨w.heap.size, 0, none⟩) len len) (w.alloc (.cells (((parts.toList.map fun p => a.eval p.2).flatMap fun v => v.cells.toList).toArray) e)) := by
    by_cases h0 : len = 0
    · have hnil : parts.toList = [] := List.eq_nil_of_length_eq_zero (by omega)
      have hnil' : parts = #[] := by simpa using hnil
      subst h0
      subst hnil'
      simp [Instr.buildSlice, run_und hu, sizeOf, typeInfo, i1, Instr.fill, newRow, Array.range_zero']
    · refine run_buildSlice w tt e len _ _ i z hu i1 i4 (by rw [i2, ← j1]; omega) ?_ ?_
      · rw [i2, ← j1]
        have := Nat.mul_pos (Nat.pos_of_ne_zero h0) c1
        omega
      · rw [hparts, i2, ← j1]
        exact Great.fill_whole c1 _ _ g8 (by rw [hlen]; simp)
  refine ⟨_, _, hrun, ?_⟩
  refine Out.after0 rfl g3 (Out.row (cs := (parts.toList.map fun p => a.eval p.2).flatMap fun v => v.cells.toList) g1 hn (World.grownBy_alloc _ _ _) ?_ (fun g q => by injection q with q; have q : w.heap.size = g := q; omega) g7)
  have hl := RzL_length (Rz_length ty) g7
  refine ⟨hl, .inr ⟨w.heap.size, len, _, by rw [g5], Nat.zero_le _, heap_new _ _, by omega, ?_, ?_, ?_⟩⟩
  · have : len * 1 ≤ len * ty.size := Nat.mul_le_mul_left _ c1
    simp only [maxLen]; omega
  · rw [List.size_toArray, hl, g5]
  · simp only []
    rw [List.take_of_length_le (by rw [hl]; exact Nat.le_refl _)]

theorem run_append_of_nil (base : Nat) (t ty e : TypeId) (i : TypeInfo) (size : Nat) (ht : P.underlying t = some (.slice e)) (hi : P.info? e = some i)
    (v : Value) (n : Nat) (xs : List Value) (hown : w.ownsRow base e size v n xs) (c : Nat) : (Builtin.append_ #[t, t] ty #[v, .slice none 0 c]).run P w = .ok v w := by
  rcases hown.2 with ⟨rfl, rfl⟩ | ⟨g, cap, cur, rfl, _, _, hnc, _⟩
  · simp [Builtin.append_, run_und ht, sizeOf, typeInfo, hi, Builtin.lenOf, Builtin.firstCells]
  · simp [Builtin.append_, run_und ht, sizeOf, typeInfo, hi, Builtin.lenOf, Builtin.firstCells, hnc, storeCells]

/-- append onto a row of the call's own, of whatever data. -/
theorem run_append_data (hP : TabOK P TT) {tt e : Nat} {td te : TD} (ht : TT tt = some td) (hk : td.k = .sl e) (he : TT e = some te) {ty : Ty} (hty : te.ty = some ty) (rt : TypeId)
    (hsz : 0 < ty.size) (hb : te.bytes ≤ 1024) {ok : Nat → Prop} {v : Value} {n : Nat} {xs : List Value} (hown : w.ownsRow 0 e ty.size v n xs) {ys : List ty.den} {vy : Value} (hy : Rz w ok (.sl ty) ys [vy]) (hl : n + ys.length ≤ LIM) :
    ∃ v' w' cs, (Builtin.append_ #[tt, tt] rt #[v, vy]).run P w = .ok v' w' ∧ RzL (Rz w ok ty) ys cs ∧ w'.ownsRow 0 e ty.size v' (n + ys.length) (xs ++ cs) ∧ w.grownBy w' v.ownBlock ∧ (v'.ownBlock = v.ownBlock ∨ v'.ownBlock = some w.heap.size) := by
  obtain ⟨i, z, i1, i2, i3, i4, i5, i6, i7⟩ := (hP e te he).ex
  obtain ⟨j1, j2⟩ := i7 ty hty
  have hu := (hP tt td ht).und
  rw [hk] at hu
  have hu : P.underlying tt = some (.slice e) := hu
  have hzl := Rz_length ty _ _ (j2 w ok)
  rw [Array.length_toList] at hzl
  have hL : LIM = 4294967296 := rfl
  rw [hL] at hl
  have hby : (n + ys.length) * te.bytes ≤ 140737488355328 := by
    have := Nat.mul_le_mul hl hb
    omega
  obtain ⟨A, c, e1, h2, h3⟩ := hy
  injection e1 with e1 _
  subst e1
  rcases A with _ | ad
  · have h0 : ys.length = 0 := by
      rcases Nat.eq_zero_or_pos ys.length with h0 | h0
      · exact h0
      · obtain ⟨g, o, cs, q, _⟩ := h3 h0
        cases q
    have hnil := List.eq_nil_of_length_eq_zero h0
    subst hnil
    exact ⟨v, w, [], run_append_of_nil 0 tt rt e i ty.size hu i1 v n xs hown c, rfl, by simpa using hown, ⟨rfl, rfl, rfl, Nat.le_refl _, fun _ _ _ => rfl⟩, .inl rfl⟩
  · have hcells : ∃ cs, RzL (Rz w ok ty) ys cs ∧ ∀ j u, cs[j]? = some u → w.cell? (ad.add j) = some u := by
      rcases Nat.eq_zero_or_pos ys.length with h0 | h0
      · have hnil := List.eq_nil_of_length_eq_zero h0
        subst hnil
        exact ⟨[], rfl, by simp⟩
      · obtain ⟨g, o, cs, q, _, q3, q4⟩ := h3 h0
        injection q with q
        subst q
        exact ⟨cs, q3, fun j u hu => by rw [addr_add]; exact q4 j u hu⟩
    obtain ⟨cs, c1, c2⟩ := hcells
    obtain ⟨v', w', r1, r2, r3, _, r5⟩ := run_append_own_at (P := P) w 0 tt rt e i z ty.size te.bytes hu i1 i4 (by omega) i3 hzl hsz v n xs hown ad ys.length c cs (RzL_length (Rz_length ty) c1) c2
      (RzL_one c1) (by simp only [maxLen]; omega) hby (Nat.zero_le _)
    exact ⟨v', w', cs, r1, c1, r2, r3, r5⟩

theorem append_nil_op (hP : TabOK P TT) (h : HRel X keep w0 ι C w) {nb : Nat} (hn : ι nb = none) {tt e : Nat} {td te : TD} (ht : TT tt = some td) (hk : td.k = .sl e) (he : TT e = some te) {ty : Ty} (hty : te.ty = some ty) (rt : TypeId)
    (hsz : 0 < ty.size) (hb : te.bytes ≤ 1024) {y : AV} {vy : Value} (hy : RelV w (okb X w ι C) ι y vy) {ys : List ty.den} {f : List (Nat × Blk)} (hd : elems C ty y = some (ys, f)) (hl : ys.length ≤ LIM) :
    ∃ v w', (Builtin.append_ #[tt, tt] rt #[.slice none 0 0, vy]).run P w = .ok v w' ∧ Out X keep w0 ι C w nb ⟨.rf nb, f, [.row ty e ys true]⟩ v w' := by
  obtain ⟨⟨g1, g2, g3⟩, g4⟩ := dat1_sound h (FrozenOf.refl C) hy hd
  obtain ⟨v', w', cs, r1, r2, r3, r4, r5⟩ := run_append_data hP ht hk he hty rt hsz hb (World.ownsRow_nil w 0 e ty.size) g4 (by rwa [Nat.zero_add])
  rw [Nat.zero_add, List.nil_append] at r3
  refine ⟨v', w', r1, Out.after0 rfl g3 (Out.row g1 hn r4 r3 (fun g q => ?_) r2)⟩
  rcases r5 with r5 | r5
  · rw [r5] at q; cases q
  · rw [r5] at q; injection q with q; omega

theorem append_row_op (hP : TabOK P TT) (h : HRel X keep w0 ι C w) {nb : Nat} (hn : ι nb = none) {tt e : Nat} {td te : TD} (ht : TT tt = some td) (hk : td.k = .sl e) (he : TT e = some te) {ty : Ty} (hty : te.ty = some ty) (rt : TypeId)
    (hsz : 0 < ty.size) (hb : te.bytes ≤ 1024) {b : Nat} {vx : Value} (hx : RelV w (okb X w ι C) ι (.rf b) vx) {xs : List ty.den} (hC : C b = .row ty e xs true) {y : AV} {vy : Value} (hy : RelV w (okb X w ι C) ι y vy) {ys : List ty.den} {f : List (Nat × Blk)} (hd : elems C ty y = some (ys, f))
    (hm : memN b (updIds f) = false) (hl : xs.length + ys.length ≤ LIM) :
    ∃ v w', (Builtin.append_ #[tt, tt] rt #[vx, vy]).run P w = .ok v w' ∧ Out X keep w0 ι C w nb ⟨.rf nb, f ++ [(b, .dead)], [.row ty e (xs ++ ys) true]⟩ v w' := by
  obtain ⟨⟨g1, g2, g3⟩, g4⟩ := dat1_sound h (FrozenOf.refl C) hy hd
  have hupd : ∀ (f : List (Nat × Blk)) (C : Nat → Blk), memN b (updIds f) = false → updC C f b = C b := by
    intro f
    induction f with
    | nil => intro C _; rfl
    | cons p r ih =>
      intro C hm
      obtain ⟨k, u⟩ := p
      simp only [updIds, memN, Bool.or_eq_false_iff] at hm
      show updC (setC C k u) r b = C b
      rw [ih _ hm.2, setC_ne (fun hbk => by have := hm.1; simp [hbk] at this)]
  have hC1 : updC C f b = .row ty e xs true := by rw [hupd f C hm, hC]
  have hB := g1.bl b
  rw [hC1] at hB
  obtain ⟨v0, cs0, b1, b2, b3⟩ := hB
  simp only [RelV] at hx
  rw [hx.1] at b1
  injection b1 with b1
  subst b1
  obtain ⟨v', w', cs, r1, r2, r3, r4, r5⟩ := run_append_data hP ht hk he hty rt hsz hb b2 g4 hl
  refine ⟨v', w', r1, ?_⟩
  refine Out.after (u := [(b, .dead)]) rfl g3 ?_
  generalize updC C f = C1 at *
  have hbn : b ≠ nb := by rintro rfl; rw [hn] at hx; cases hx.1
  have hbk : bk ι C1 b = vx.ownBlock := by unfold bk; rw [hC1, hx.1]
  have hdead : ∀ ι', bk ι' (setC (setC C1 b .dead) nb (.row ty e (xs ++ ys) true)) b = none := by
    intro ι'
    unfold bk; rw [setC_ne hbn, setC_self]
  have hnew : bk (setI ι nb v') (setC (setC C1 b .dead) nb (.row ty e (xs ++ ys) true)) nb = v'.ownBlock := by
    unfold bk; rw [setC_self, setI_self]
  have := g1.step (C' := setC (setC C1 b .dead) nb (.row ty e (xs ++ ys) true)) (ι' := setI ι nb v') (w' := w') (fun k => k = b ∨ k = nb) r4.os r4.tape r4.output r4.size
    (fun k hk => by rw [setC_ne (fun q => hk (.inr q)), setC_ne (fun q => hk (.inl q))])
    (fun k u hk => by
      by_cases q : k = nb
      · subst q; rw [hn] at hk; cases hk
      · rw [setI_ne q]; exact hk) (fun k hk => setI_ne (fun q => hk (.inr q)))
    (fun k g hk q => by
      rcases hk with rfl | rfl
      · rw [hdead] at q; cases q
      · rw [hnew] at q
        rcases r5 with r5 | r5
        · exact .inr ⟨b, .inl rfl, by rw [hbk, ← r5, q]⟩
        · rw [r5] at q; injection q with q; exact .inl (by omega))
    (fun k k' g hk hk' q q' => by
      rcases hk with rfl | rfl
      · rw [hdead] at q; cases q
      · rcases hk' with rfl | rfl
        · rw [hdead] at q'; cases q'
        · rfl)
    (fun g hg hk => r4.block g hg (fun q => hk b (.inl rfl) (by rw [hbk, ← q])))
    (fun hext k hk => by
      by_cases q : k = nb
      · subst q
        rw [setC_self]
        refine ⟨v', _, setI_self _ _ _, ?_, RzL_append (RzL_mono (fun x us hx => hext.data hx) b3) (RzL_mono (fun x us hx => hext.data hx) r2)⟩
        rw [List.length_append]
        exact r3
      · have q2 : k = b := hk.resolve_right q
        subst q2
        rw [setC_ne q, setC_self]
        trivial)
  refine ⟨setI ι nb v', this.1, this.2, ?_, fun k hk => setI_ne (by rintro rfl; exact hk ⟨Nat.le_refl _, by simp⟩)⟩
  simp only [RelV]
  refine ⟨setI_self _ _ _, ?_⟩
  rcases r3.2 with ⟨h1, h2⟩ | ⟨g, cap, cur, h1, _⟩
  · exact ⟨none, 0, 0, by rw [h1]⟩
  · exact ⟨_, _, _, h1⟩
end
end Go.Proofs.Rf
