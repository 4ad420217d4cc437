/- Rf, part g: operations that make memory; slices; indexes. -/
import Derived.Test.YtgkgjgcoalmldaaFf
import Derived.Great.FillDense
import Derived.Maps.AppendAt
namespace Go.Proofs.Rf
open Go Go.RowKit

theorem heap_new (w : World) (o : Obj) : (w.alloc o).heap[w.heap.size]? = some o := by
  show (w.heap.push o)[w.heap.size]? = _
  simp

theorem madeCells_toList (z : Array Value) (hz : 0 < z.size) : ∀ n, (madeCells z (n * z.size)).toList = (List.replicate n z.toList).flatten
  | 0 => by simp [madeCells]
  | n + 1 => by
    have ih := madeCells_toList z hz n
    rw [List.replicate_succ, List.flatten_cons, ← ih]
    unfold madeCells
    rw [Nat.add_mul, Nat.one_mul, Nat.add_comm]
    simp only [Array.toList_map, Array.toList_range, List.range_add, List.map_append, List.map_map]
    congr 1
    · apply List.ext_getElem?
      intro k
      simp only [List.getElem?_map]
      by_cases hk : k < z.size
      · rw [List.getElem?_range hk]
        simp [hk, Nat.mod_eq_of_lt hk]
      · rw [List.getElem?_eq_none (by simpa using hk), List.getElem?_eq_none (by simpa using hk)]
        rfl
    · apply List.map_congr_left
      intro k _
      simp

section
variable {X keep : Nat → Prop} {w0 w : World} {ι : Nat → Option Value} {C : Nat → Blk} {P : Program} {TT : Tab}

/-- A new block. -/
theorem HRel.new (h : HRel X keep w0 ι C w) {nb : Nat} (hn : ι nb = none) {w' : World} (hg : w.grownBy w' none) {v : Value} {b : Blk}
    (hown : ∀ g, bk (setI ι nb v) (setC C nb b) nb = some g → w.heap.size ≤ g)
    (hB : Ext X ι C w (setI ι nb v) (setC C nb b) w' → RelB w' (okb X w' (setI ι nb v) (setC C nb b)) (setI ι nb v) nb b) :
    HRel X keep w0 (setI ι nb v) (setC C nb b) w' ∧ Ext X ι C w (setI ι nb v) (setC C nb b) w' :=
  h.step (fun k => k = nb) hg.os hg.tape hg.output hg.size (fun k hk => setC_ne hk)
    (fun k u hk => by
      by_cases e : k = nb
      · subst e; rw [hn] at hk; cases hk
      · rw [setI_ne e]; exact hk) (fun k hk => setI_ne hk) (fun k g hk q => by subst hk; exact .inl (hown g q)) (fun k k' b hk hk' _ _ => hk.trans hk'.symm)
    (fun b hb _ => hg.block b hb (by simp)) (fun hext k hk => by subst hk; rw [setC_self]; exact hB hext)

theorem Out.new {nb : Nat} {v : Value} {b : Blk} {w' : World} (h : HRel X keep w0 (setI ι nb v) (setC C nb b) w' ∧ Ext X ι C w (setI ι nb v) (setC C nb b) w') {a : AV} {r : Value} (hr : RelV w' (okb X w' (setI ι nb v) (setC C nb b)) (setI ι nb v) a r) :
    Out X keep w0 ι C w nb ⟨a, [], [b]⟩ r w' :=
  ⟨setI ι nb v, h.1, h.2, hr, fun k hk => setI_ne (by rintro rfl; exact hk ⟨Nat.le_refl _, by simp⟩)⟩

theorem new_cells (h : HRel X keep w0 ι C w) {nb : Nat} (hn : ι nb = none) {cs : List AV} {us : List Value} (hr : RelL w (okb X w ι C) ι cs us) (e : Nat) :
    Out X keep w0 ι C w nb ⟨.pt nb 0, [], [.box cs]⟩ (.pointer (some ⟨w.heap.size, 0, none⟩)) (w.alloc (.cells us.toArray e)) := by
  refine Out.new (v := .pointer (some ⟨w.heap.size, 0, none⟩)) (h.new hn (World.grownBy_alloc _ _ _) ?_ ?_) ?_
  · intro g q
    unfold bk at q
    rw [setC_self, setI_self] at q
    injection q with q
    have q : w.heap.size = g := q
    omega
  · intro hext
    exact ⟨w.heap.size, e, us, setI_self _ _ _, heap_new _ _, hext.vals hr⟩
  · simp only [RelV]
    exact ⟨w.heap.size, setI_self _ _ _, rfl⟩

theorem alloc_op (hP : TabOK P TT) (h : HRel X keep w0 ι C w) {nb : Nat} (hn : ι nb = none) {e : Nat} {td : TD} (he : TT e = some td) :
    ∃ v w', (Instr.alloc e true (.tuple #[])).run P w = .ok v w' ∧ Out X keep w0 ι C w nb ⟨.pt nb 0, [], [.box td.zero]⟩ v w' := by
  obtain ⟨i, z, h1, h2, h3, h4, h5, h6, _⟩ := (hP e td he).ex
  refine ⟨_, _, ?_, new_cells h hn (h5 _ _ _) e⟩
  simp [Instr.alloc, zeroValue, typeInfo, h1, h4, newVar, newRow]

theorem box_op (h : HRel X keep w0 ι C w) {nb : Nat} (hn : ι nb = none) {e : Nat} {x : AV} {vx : Value} (hx : RelV w (okb X w ι C) ι x vx) (h1 : x ≠ .un) (h2 : x ≠ .ud) :
    ∃ v w', (Instr.box e vx).run P w = .ok v w' ∧ Out X keep w0 ι C w nb ⟨.pt nb 0, [], [.box (cellsOf x)]⟩ v w' := by
  refine ⟨_, _, ?_, new_cells h hn (RelV_cells hx h1 h2) e⟩
  simp [Instr.box, newVar, newRow]

theorem range_op {tt : Nat} (hu : P.underlying tt = some .string) (h : HRel X keep w0 ι C w) {nb : Nat} (hn : ι nb = none) {s : List UInt8} :
    ∃ v w', (Instr.range tt (.string ⟨s.toArray⟩)).run P w = .ok v w' ∧ Out X keep w0 ι C w nb ⟨.pt nb 0, [], [.it s 0]⟩ v w' := by
  refine ⟨.pointer (some ⟨w.heap.size, 0, none⟩), w.alloc (.stringIter ⟨s.toArray⟩ 0), ?_, ?_⟩
  · simp [Instr.range, run_und hu]
  · refine Out.new (v := .pointer (some ⟨w.heap.size, 0, none⟩)) (h.new hn (World.grownBy_alloc _ _ _) ?_ ?_) ?_
    · intro g q
      unfold bk at q
      rw [setC_self, setI_self] at q
      injection q with q
      have q : w.heap.size = g := q
      omega
    · intro hext
      exact ⟨w.heap.size, setI_self _ _ _, heap_new _ _⟩
    · simp only [RelV]
      exact ⟨w.heap.size, setI_self _ _ _, rfl⟩

/-- A new row of the call's own. -/
theorem Out.row (h : HRel X keep w0 ι C w) {nb : Nat} (hn : ι nb = none) {w' : World} (hg : w.grownBy w' none) {t : Ty} {e : Nat} {xs : List t.den} {v : Value} {cs : List Value}
    (ho : w'.ownsRow 0 e t.size v xs.length cs) (hv : ∀ g, v.ownBlock = some g → w.heap.size ≤ g) (hr : RzL (Rz w (okb X w ι C) t) xs cs) :
    Out X keep w0 ι C w nb ⟨.rf nb, [], [.row t e xs true]⟩ v w' := by
  refine Out.new (v := v) (h.new hn hg ?_ ?_) ?_
  · intro g q
    unfold bk at q
    rw [setC_self, setI_self] at q
    exact hv g q
  · intro hext
    exact ⟨v, cs, setI_self _ _ _, ho, RzL_mono (fun x us hx => hext.data hx) hr⟩
  · simp only [RelV]
    refine ⟨setI_self _ _ _, ?_⟩
    rcases ho.2 with ⟨h1, h2⟩ | ⟨g, cap, cur, h1, _⟩
    · exact ⟨none, 0, 0, by rw [h1]⟩
    · exact ⟨_, _, _, h1⟩

/-- An effect behind another: blocks changed first (ι being as it was), then the rest. -/
theorem Out.after {f : List (Nat × Blk)} {C1 : Nat → Blk} (hC : C1 = updC C f) (hext : Ext X ι C w ι C1 w) {nb : Nat} {a : AV} {new : List Blk} {u : List (Nat × Blk)} {v : Value} {w' : World} (h : Out X keep w0 ι C1 w nb ⟨a, u, new⟩ v w') :
    Out X keep w0 ι C w nb ⟨a, f ++ u, new⟩ v w' := by
  obtain ⟨ι', h1, h2, h3, h4⟩ := h
  subst hC
  have he : effC C nb ⟨a, f ++ u, new⟩ = effC (updC C f) nb ⟨a, u, new⟩ := by unfold effC; rw [updC_append]
  refine ⟨ι', ?_, ?_, ?_, h4⟩
  · rw [he]; exact h1
  · rw [he]; exact hext.trans h2
  · rw [he]; exact h3

theorem Out.after0 {f : List (Nat × Blk)} {C1 : Nat → Blk} (hC : C1 = updC C f) (hext : Ext X ι C w ι C1 w) {nb : Nat} {a : AV} {new : List Blk} {v : Value} {w' : World} (h : Out X keep w0 ι C1 w nb ⟨a, [], new⟩ v w') :
    Out X keep w0 ι C w nb ⟨a, f, new⟩ v w' := by
  have := Out.after hC hext h
  rwa [List.append_nil] at this

theorem make_op (hP : TabOK P TT) (h : HRel X keep w0 ι C w) {nb : Nat} (hn : ι nb = none) {tt e : Nat} {td te : TD} (ht : TT tt = some td) (hk : td.k = .sl e) (he : TT e = some te) {ty : Ty} (hty : te.ty = some ty)
    {x y : Int} (hsz : 0 < ty.size) (hb : te.bytes ≤ 1024) (h0 : 0 ≤ x) (h1 : x ≤ y) (h2 : y ≤ (LIM : Int)) :
    ∃ v w', (Instr.makeSlice tt (.int .i64 x) (.int .i64 y)).run P w = .ok v w' ∧ Out X keep w0 ι C w nb ⟨.rf nb, [], [.row ty e (List.replicate x.toNat ty.dflt) true]⟩ v w' := by
  obtain ⟨i, z, i1, i2, i3, i4, i5, i6, i7⟩ := (hP e te he).ex
  obtain ⟨j1, j2⟩ := i7 ty hty
  have hu := (hP tt td ht).und
  rw [hk] at hu
  have hu : P.underlying tt = some (.slice e) := hu
  have hL : LIM = 4294967296 := rfl
  rw [hL] at h2
  have hzl := Rz_length ty _ _ (j2 w (okb X w ι C))
  have hby : (i.bytes : Int) * y ≤ 281474976710656 := by
    have e1 : (i.bytes : Int) ≤ 1024 := by omega
    have e2 : (i.bytes : Int) * y ≤ 1024 * y := Int.mul_le_mul_of_nonneg_right e1 (by omega)
    omega
  have hr := run_make (P := P) w tt e i z hu i1 i4 .i64 .i64 x y h0 h1 hby (by omega)
  refine ⟨_, _, hr, ?_⟩
  have hms : (madeCells z.cells (y.toNat * i.size)).size = y.toNat * i.size := size_madeCells _ _
  refine Out.row (cs := (List.replicate x.toNat z.cells.toList).flatten) h hn (World.grownBy_alloc _ _ _) ?_ (fun g q => by injection q with q; have q : w.heap.size = g := q; omega) (RzL_replicate (j2 w _) _)
  rw [List.length_replicate]
  have hzs : z.cells.size = ty.size := by rw [← Array.length_toList]; exact hzl
  refine ⟨?_, .inr ⟨w.heap.size, y.toNat, _, rfl, Nat.zero_le _, heap_new _ _, by omega, by simp only [maxLen]; omega, by rw [hms, i2, j1], ?_⟩⟩
  · have := RzL_length (Rz_length ty) (RzL_replicate (j2 w (okb X w ι C)) x.toNat)
    rwa [List.length_replicate] at this
  · rw [i2, ← j1, ← hzs, madeCells_toList _ (by omega)]
    have e1 : y.toNat = x.toNat + (y.toNat - x.toNat) := by omega
    rw [e1, List.replicate_append_replicate.symm, List.flatten_append, List.take_left']
    rw [hzs]
    have := RzL_length (Rz_length ty) (RzL_replicate (j2 w (okb X w ι C)) x.toNat)
    rwa [List.length_replicate] at this
end
end Go.Proofs.Rf
