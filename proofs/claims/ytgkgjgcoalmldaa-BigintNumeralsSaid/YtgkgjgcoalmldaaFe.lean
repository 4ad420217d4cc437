/- Rf, part e: what the operations of the abstract evaluator that read, write and make memory say of the model's. -/
import Derived.Test.YtgkgjgcoalmldaaFd
import Derived.Great.BuildSlice
import Derived.Laws.OwnMore
namespace Go.Proofs.Rf
open Go Go.RowKit

section
variable {X keep : Nat → Prop} {w0 w : World} {ι : Nat → Option Value} {C : Nat → Blk} {P : Program} {TT : Tab}

theorem allOne_sound {ok : Nat → Prop} : ∀ {cs : List AV} {us : List Value}, allOne cs = true → RelL w ok ι cs us → ∀ u ∈ us, u.oneCell' = true
  | [], us, _, h => by rw [RelL_nil.1 h]; simp
  | a :: r, us, ha, h => by
    obtain ⟨v, vr, e, h1, h2⟩ := RelL_cons.1 h
    simp only [allOne, Bool.and_eq_true] at ha
    rw [e]
    intro u hu
    rcases List.mem_cons.1 hu with rfl | hu
    · cases a with
      | d t x =>
        simp only [RelV] at h1
        exact Rz_one t x _ h1 u (by simp)
      | un => exact absurd ha.1 (by simp [AV.one])
      | ud => exact absurd ha.1 (by simp [AV.one])
      | ag cs => exact absurd ha.1 (by simp [AV.one])
      | tp cs => exact absurd ha.1 (by simp [AV.one])
      | nl => simp only [RelV] at h1; subst h1; rfl
      | ub => simp only [RelV] at h1; obtain ⟨b, rfl⟩ := h1; rfl
      | np => simp only [RelV] at h1; subst h1; rfl
      | rf b => simp only [RelV] at h1; obtain ⟨_, A, n, c, rfl⟩ := h1; rfl
      | rs b sz off len => simp only [RelV] at h1; obtain ⟨A, n, c, A', c', _, _, rfl, _⟩ := h1; rfl
      | pt b o => simp only [RelV] at h1; obtain ⟨g, _, rfl⟩ := h1; rfl
      | pe b sz i o => simp only [RelV] at h1; obtain ⟨g, n, c, _, _, rfl⟩ := h1; rfl
      | ve cs => simp only [RelV] at h1; obtain ⟨g, o, us, rfl, _⟩ := h1; rfl
      | fn f cs => simp only [RelV] at h1; obtain ⟨us, rfl, _⟩ := h1; rfl
      | fm f cs => simp only [RelV] at h1; obtain ⟨us, rfl, _⟩ := h1; rfl
    · exact allOne_sound ha.2 h2 u hu

/-! ### Reading -/
theorem box_cells (h : HRel X keep w0 ι C w) {b : Nat} {cs : List AV} (hb : C b = .box cs) : ∃ g e us, ι b = some (.pointer (some ⟨g, 0, none⟩)) ∧ w.heap[g]? = some (.cells (List.toArray us) e (0, 0)) ∧ RelL w (okb X w ι C) ι cs us := by
  have := h.bl b
  rw [hb] at this
  exact this

theorem cell_heap {g : Nat} {us : List Value} {e : Nat} {fr : Nat × Nat} (h : w.heap[g]? = some (.cells us.toArray e fr)) (j : Nat) : w.cell? ⟨g, j, none⟩ = us[j]? := by
  simp [World.cell?, h]

/-- Row b lies in the world, whether it is still the call's own or read alone. -/
theorem row_cells (h : HRel X keep w0 ι C w) {b : Nat} {t : Ty} {e : Nat} {xs : List t.den} {rw : Bool} (hb : C b = .row t e xs rw) :
    ∃ A c, ι b = some (.slice A xs.length c) ∧ xs.length ≤ c ∧ (0 < xs.length → ∃ g o cs, A = some ⟨g, o, none⟩ ∧ RzL (Rz w (okb X w ι C) t) xs cs ∧ ∀ j u, cs[j]? = some u → w.cell? ⟨g, o + j, none⟩ = some u) := by
  have hB := h.bl b
  rw [hb] at hB
  cases rw with
  | false =>
    obtain ⟨v, h1, _, A, c, e, h2, h3⟩ := hB
    injection e with e _
    subst e
    exact ⟨A, c, h1, h2, fun hp => by
      obtain ⟨g, o, cs, q1, _, q3, q4⟩ := h3 hp
      exact ⟨g, o, cs, q1, q3, q4⟩⟩
  | true =>
    obtain ⟨v, cs, h1, h2, h3⟩ := hB
    rcases h2.2 with ⟨h4, h5⟩ | ⟨g, cap, cur, hv, _, h6, h7, h8, h9, h10⟩
    · exact ⟨none, 0, by rw [h1, h4, h5], by omega, fun hp => by omega⟩
    · refine ⟨some ⟨g, 0, none⟩, cap, by rw [h1, hv], h7, fun _ => ⟨g, 0, cs, rfl, h3, fun j u hu => ?_⟩⟩
      have hcl := h2.cells (g := g) (by rw [hv]; rfl) j u hu
      rw [addr_add] at hcl
      exact hcl

theorem elem_cells (h : HRel X keep w0 ι C w) {b sz i o : Nat} {t : Ty} {e : Nat} {xs : List t.den} {rw : Bool} (hb : C b = .row t e xs rw) {v : Value} (hv : RelV w (okb X w ι C) ι (.pe b sz i o) v) (hsz : sz = t.size) :
    ∃ g us, v = .pointer (some ⟨g, i * t.size + o, none⟩) ∧ ι b = some (.slice (some ⟨g, 0, none⟩) xs.length (match ι b with | some (.slice _ _ c) => c | _ => 0)) ∧ i < xs.length ∧ Rz w (okb X w ι C) t (xs.getD i t.dflt) us ∧ us.length = t.size ∧
      ∀ j u, us[j]? = some u → w.cell? ⟨g, i * t.size + j, none⟩ = some u := by
  subst hsz
  simp only [RelV] at hv
  obtain ⟨g, n, c, h1, h2, h3⟩ := hv
  obtain ⟨A, c', h4, h5, h6⟩ := row_cells h hb
  rw [h1] at h4
  injection h4 with h4
  injection h4 with q1 q2 q3
  subst q1; subst q2; subst q3
  obtain ⟨g', o', cs, q4, q5, q6⟩ := h6 (by omega)
  injection q4 with q4
  injection q4 with q4 q7 _
  subst q4; subst q7
  have hx : xs[i]? = some (xs.getD i t.dflt) := by
    rw [List.getD_eq_getElem?_getD, List.getElem?_eq_getElem h2]; rfl
  obtain ⟨us, r1, r2, r3⟩ := RzL_get (Rz_length t) i _ q5 hx
  refine ⟨g, us, h3, by rw [h1], h2, r1, r2, fun j u hu => ?_⟩
  have := q6 _ _ (r3 j u hu)
  rwa [Nat.zero_add] at this

theorem elem_addr {b sz i o : Nat} {v : Value} {ok : Nat → Prop} (hv : RelV w ok ι (.pe b sz i o) v) : ∃ g, v = .pointer (some ⟨g, i * sz + o, none⟩) := by
  simp only [RelV] at hv
  obtain ⟨g, n, c, h1, h2, h3⟩ := hv
  exact ⟨g, h3⟩

theorem run_loadAt {tt : Nat} {a : Addr} : (Instr.loadAt tt (.pointer (some a))).run P w = (loadVar tt a).run P w := by
  simp [Instr.loadAt, Instr.sureAddr]

theorem load_op (hP : TabOK P TT) (h : HRel X keep w0 ι C w) {tt : Nat} {a x : AV} {va : Value} (ha : RelV w (okb X w ι C) ι a va)
    (hl : loadAV TT C tt a = some x) : ∃ v, (Instr.loadAt tt va).run P w = .ok v w ∧ RelV w (okb X w ι C) ι x v := by
  unfold loadAV at hl
  cases a
  case pt b o' =>
    simp only at hl
    split at hl
    · rename_i cs hb
      obtain ⟨g, e, us, h1, h2, h3⟩ := box_cells h hb
      simp only [RelV] at ha
      obtain ⟨g', h4, h5⟩ := ha
      rw [h1] at h4
      injection h4 with h4
      injection h4 with h4
      injection h4 with h4
      injection h4 with h4
      subst h4
      subst h5
      rw [run_loadAt]
      refine load_sound hP (us := us.drop o') (fun j u hj => ?_) (RelL_drop h3 o') hl
      rw [cell_heap h2]
      rwa [List.getElem?_drop] at hj
    · cases hl
  case pe b sz i o' =>
    simp only at hl
    split at hl
    · rename_i t e xs rw hb
      split at hl
      · rename_i hsz
        obtain ⟨g, us, h1, h2, h3, h4, h5, h6⟩ := elem_cells h hb ha (Nat.eq_of_beq_eq_true hsz)
        subst h1
        rw [run_loadAt]
        refine load_sound hP (us := us.drop o') (fun j u hj => ?_) (RelL_drop (RelL_unpack t _ us h4) o') hl
        rw [Nat.add_assoc]
        rw [List.getElem?_drop] at hj
        exact h6 _ _ hj
      · cases hl
    · cases hl
  case ve cs =>
    simp only at hl
    simp only [RelV] at ha
    obtain ⟨g, o, us, h1, h2, h3, h4⟩ := ha
    subst h1
    rw [run_loadAt]
    exact load_sound hP h4 h3 hl
  all_goals cases hl

end
end Go.Proofs.Rf
