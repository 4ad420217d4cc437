/- Rf, part m: an operation over what it names alone: all else is as it was. -/
import Derived.Test.YtgkgjgcoalmldaaFl
namespace Go.Proofs.Rf
open Go Go.RowKit

theorem memN_iff {k : Nat} : ∀ {l : List Nat}, memN k l = true ↔ k ∈ l
  | [] => by simp [memN]
  | j :: r => by
    simp only [memN, Bool.or_eq_true, List.mem_cons, memN_iff (l := r)]
    constructor
    · rintro (h | h)
      · exact .inl (Nat.eq_of_beq_eq_true h).symm
      · exact .inr h
    · rintro (h | h)
      · subst h; exact .inl (Nat.beq_refl _)
      · exact .inr h

theorem updC_other : ∀ (u : List (Nat × Blk)) (C : Nat → Blk) (k : Nat), k ∉ updIds u → updC C u k = C k
  | [], _, _, _ => rfl
  | (j, b) :: r, C, k, h => by
    simp only [updIds, List.mem_cons, not_or] at h
    show updC (setC C j b) r k = C k
    rw [updC_other r _ k h.2, setC_ne h.1]

theorem updC_congr : ∀ (u : List (Nat × Blk)) (C C' : Nat → Blk) (k : Nat), (C k = C' k ∨ k ∈ updIds u) → updC C u k = updC C' u k
  | [], _, _, _, h => h.resolve_right (by simp [updIds])
  | (j, b) :: r, C, C', k, h => by
    show updC (setC C j b) r k = updC (setC C' j b) r k
    apply updC_congr
    by_cases hk : k = j
    · subst hk; left; rw [setC_self, setC_self]
    · rw [setC_ne hk, setC_ne hk]
      refine h.imp id fun h => ?_
      simp only [updIds, List.mem_cons] at h
      exact h.resolve_left hk

theorem addC_other : ∀ (new : List Blk) (C : Nat → Blk) (nb k : Nat), ¬ (nb ≤ k ∧ k < nb + new.length) → addC C nb new k = C k
  | [], _, _, _, _ => rfl
  | b :: r, C, nb, k, h => by
    show addC (setC C nb b) (nb + 1) r k = C k
    simp only [List.length_cons] at h
    rw [addC_other r _ _ k (by omega), setC_ne (by omega)]

theorem addC_congr : ∀ (new : List Blk) (C C' : Nat → Blk) (nb k : Nat), (C k = C' k ∨ (nb ≤ k ∧ k < nb + new.length)) → addC C nb new k = addC C' nb new k
  | [], _, _, nb, k, h => h.resolve_right (by simp)
  | b :: r, C, C', nb, k, h => by
    show addC (setC C nb b) (nb + 1) r k = addC (setC C' nb b) (nb + 1) r k
    apply addC_congr
    by_cases hk : k = nb
    · subst hk; left; rw [setC_self, setC_self]
    · rw [setC_ne hk, setC_ne hk]
      simp only [List.length_cons] at h
      exact h.imp id fun h => by omega

/-- The blocks that an effect writes. -/
def wrote (nb : Nat) (e : Eff) (k : Nat) : Prop := k ∈ updIds e.upd ∨ (nb ≤ k ∧ k < nb + e.new.length)

theorem effC_other {C : Nat → Blk} {nb : Nat} {e : Eff} {k : Nat} (h : ¬ wrote nb e k) : effC C nb e k = C k := by
  unfold effC
  rw [addC_other _ _ _ _ (fun q => h (.inr q)), updC_other _ _ _ (fun q => h (.inl q))]

theorem effC_congr {C C' : Nat → Blk} {nb : Nat} {e : Eff} {k : Nat} (h : C k = C' k ∨ wrote nb e k) : effC C nb e k = effC C' nb e k := by
  unfold effC
  apply addC_congr
  rcases h with h | h | h
  · exact .inl (updC_congr _ _ _ _ (.inl h))
  · exact .inl (updC_congr _ _ _ _ (.inr h))
  · exact .inr h

section
variable {X keep : Nat → Prop} {w0 w : World} {ι : Nat → Option Value} {C : Nat → Blk} {P : Program} {TT : Tab} {Δ : Nat → Option CallO} {n : Slots}

theorem bk_dead {ι : Nat → Option Value} {C : Nat → Blk} {k : Nat} (h : C k = .dead) : bk ι C k = none := by unfold bk; rw [h]

/-- Blocks that the operation doesn't name: foreign to it. -/
def Foreign (X : Nat → Prop) (ι : Nat → Option Value) (C : Nat → Blk) (m : List Nat) (b : Nat) : Prop := X b ∨ ∃ k, k ∉ m ∧ bk ι C k = some b

theorem resC_in {m : List Nat} {C : Nat → Blk} {k : Nat} (h : k ∈ m) : resC m C k = C k := by unfold resC; rw [if_pos (memN_iff.2 h)]
theorem resC_out {m : List Nat} {C : Nat → Blk} {k : Nat} (h : k ∉ m) : resC m C k = .dead := by unfold resC; rw [if_neg (fun q => h (memN_iff.1 q))]

theorem owned_res {m : List Nat} {b : Nat} : owned ι (resC m C) b ↔ ∃ k, k ∈ m ∧ bk ι C k = some b := by
  constructor
  · rintro ⟨k, hk⟩
    by_cases hm : k ∈ m
    · exact ⟨k, hm, by rw [← hk]; exact (bk_congr (resC_in hm) rfl).symm⟩
    · rw [bk_dead (resC_out hm)] at hk; cases hk
  · rintro ⟨k, hm, hk⟩
    exact ⟨k, by rw [← hk]; exact bk_congr (resC_in hm) rfl⟩

theorem okb_res (m : List Nat) (b : Nat) : okb (Foreign X ι C m) w ι (resC m C) b ↔ okb X w ι C b := by
  constructor
  · rintro ⟨h1, h2, h3⟩
    refine ⟨h1, fun ⟨k, hk⟩ => ?_, fun hx => h3 (.inl hx)⟩
    by_cases hm : k ∈ m
    · exact h2 (owned_res.2 ⟨k, hm, hk⟩)
    · exact h3 (.inr ⟨k, hm, hk⟩)
  · rintro ⟨h1, h2, h3⟩
    refine ⟨h1, fun ho => ?_, ?_⟩
    · obtain ⟨k, _, hk⟩ := owned_res.1 ho
      exact h2 ⟨k, hk⟩
    · rintro (hx | ⟨k, _, hk⟩)
      · exact h3 hx
      · exact h2 ⟨k, hk⟩

theorem HRel.res (h : HRel X keep w0 ι C w) (m : List Nat) : HRel (Foreign X ι C m) (fun b => b < w.heap.size ∧ ¬ owned ι (resC m C) b) w ι (resC m C) w := by
  have hok : okb (Foreign X ι C m) w ι (resC m C) = okb X w ι C := funext fun b => propext (okb_res m b)
  refine ⟨fun k => ?_, fun k k' b h1 h2 => ?_, Kept.refl _ _, fun b hb hk => hk.2 hb, fun b hb => hb.1, fun b hb hx => ?_, fun b hx => ?_⟩
  · rw [hok]
    by_cases hm : k ∈ m
    · rw [resC_in hm]; exact h.bl k
    · rw [resC_out hm]; trivial
  · by_cases hm : k ∈ m
    · by_cases hm' : k' ∈ m
      · rw [bk_congr (resC_in hm) rfl] at h1
        rw [bk_congr (resC_in hm') rfl] at h2
        exact h.inj k k' b h1 h2
      · rw [bk_dead (resC_out hm')] at h2; cases h2
    · rw [bk_dead (resC_out hm)] at h1; cases h1
  · obtain ⟨k, hm, hk⟩ := owned_res.1 hb
    rcases hx with hx | ⟨k', hm', hk'⟩
    · exact h.ox b ⟨k, hk⟩ hx
    · exact hm' (h.inj k k' b hk hk' ▸ hm)
  · rcases hx with hx | ⟨k', _, hk'⟩
    · exact Nat.lt_of_lt_of_le (h.xl b hx) h.fr.size
    · exact h.lt ⟨k', hk'⟩

/-- Back from the named blocks to all. -/
theorem Out.back (h : HRel X keep w0 ι C w) {m : List Nat} {nb : Nat} {e : Eff} {v : Value} {w' : World} (hsub : ∀ k ∈ updIds e.upd, k ∈ m) (hnew : ∀ k, nb ≤ k → k < nb + e.new.length → ι k = none)
    (ho : Out (Foreign X ι C m) (fun b => b < w.heap.size ∧ ¬ owned ι (resC m C) b) w ι (resC m C) w nb e v w') : Out X keep w0 ι C w nb e v w' := by
  obtain ⟨ι', H, E, V, I⟩ := ho
  have hokw : okb (Foreign X ι C m) w ι (resC m C) = okb X w ι C := funext fun b => propext (okb_res m b)
  have hin : ∀ k, k ∈ m ∨ wrote nb e k → effC C nb e k = effC (resC m C) nb e k := fun k hk => effC_congr (hk.imp (fun q => (resC_in q).symm) id)
  have hout : ∀ k, k ∉ m → ¬ wrote nb e k → effC C nb e k = C k ∧ effC (resC m C) nb e k = .dead := fun k h1 h2 => ⟨effC_other h2, by rw [effC_other h2, resC_out h1]⟩
  have hιo : ∀ k, ¬ wrote nb e k → ι' k = ι k := fun k hk => I k (fun q => hk (.inr q))
  have hbn : ∀ k, k ∉ m → wrote nb e k → bk ι C k = none := by
    rintro k h1 (h2 | h2)
    · exact absurd (hsub k h2) h1
    · unfold bk
      rw [hnew k h2.1 h2.2]
      cases C k <;> (try rfl)
      rename_i rw; cases rw <;> rfl
  have hbk : ∀ k, k ∉ m → ¬ wrote nb e k → bk ι' (effC C nb e) k = bk ι C k := fun k h1 h2 => bk_congr (hout k h1 h2).1 (hιo k h2)
  have hbi : ∀ k, k ∈ m ∨ wrote nb e k → bk ι' (effC C nb e) k = bk ι' (effC (resC m C) nb e) k := fun k hk => bk_congr (hin k hk) rfl
  -- who owns what
  have hown : ∀ b, owned ι' (effC C nb e) b ↔ owned ι' (effC (resC m C) nb e) b ∨ ∃ k, k ∉ m ∧ bk ι C k = some b := by
    intro b
    constructor
    · rintro ⟨k, hk⟩
      by_cases hc : k ∈ m ∨ wrote nb e k
      · exact .inl ⟨k, by rw [← hbi k hc]; exact hk⟩
      · simp only [not_or] at hc
        exact .inr ⟨k, hc.1, by rw [← hbk k hc.1 hc.2]; exact hk⟩
    · rintro (⟨k, hk⟩ | ⟨k, hm, hk⟩)
      · by_cases hc : k ∈ m ∨ wrote nb e k
        · exact ⟨k, by rw [hbi k hc]; exact hk⟩
        · simp only [not_or] at hc
          rw [bk_dead (hout k hc.1 hc.2).2] at hk; cases hk
      · by_cases hwr : wrote nb e k
        · rw [hbn k hm hwr] at hk; cases hk
        · exact ⟨k, by rw [hbk k hm hwr]; exact hk⟩
  have hok : okb (Foreign X ι C m) w' ι' (effC (resC m C) nb e) = okb X w' ι' (effC C nb e) := by
    funext b
    apply propext
    constructor
    · rintro ⟨h1, h2, h3⟩
      refine ⟨h1, fun ho => ?_, fun hx => h3 (.inl hx)⟩
      rcases (hown b).1 ho with q | q
      · exact h2 q
      · exact h3 (.inr q)
    · rintro ⟨h1, h2, h3⟩
      refine ⟨h1, fun ho => h2 ((hown b).2 (.inl ho)), ?_⟩
      rintro (hx | q)
      · exact h3 hx
      · exact h2 ((hown b).2 (.inr q))
  have hext : Ext X ι C w ι' (effC C nb e) w' := by
    refine ⟨E.io, fun b hb => ?_, fun b hb => ?_⟩
    · rw [← hok]; exact E.ok b (by rw [hokw]; exact hb)
    · exact E.ce b (by rw [hokw]; exact hb)
  refine ⟨ι', ⟨fun k => ?_, fun k k' b h1 h2 => ?_, ?_, fun b hb hk => ?_, h.kl, fun b hb hx => ?_, h.xl⟩, hext, by rw [← hok]; exact V, I⟩
  · by_cases hc : k ∈ m ∨ wrote nb e k
    · rw [← hok, hin k hc]; exact H.bl k
    · simp only [not_or] at hc
      refine RelB_keep hext k (h.bl k) (hout k hc.1 hc.2).1 fun b hb => ?_
      refine H.fr.block b ⟨h.lt ⟨k, hb⟩, fun ho => ?_⟩ (h.lt ⟨k, hb⟩)
      obtain ⟨k', hm', hk'⟩ := owned_res.1 ho
      exact hc.1 (h.inj k' k b hk' hb ▸ hm')
  · have cross : ∀ k k', (k ∈ m ∨ wrote nb e k) → ¬ (k' ∈ m ∨ wrote nb e k') → bk ι' (effC C nb e) k = some b → bk ι' (effC C nb e) k' = some b → False := by
      intro k k' hc hc' h1 h2
      simp only [not_or] at hc'
      rw [hbi k hc] at h1
      rw [hbk k' hc'.1 hc'.2] at h2
      exact H.ox b ⟨k, h1⟩ (.inr ⟨k', hc'.1, h2⟩)
    by_cases hc : k ∈ m ∨ wrote nb e k <;> by_cases hc' : k' ∈ m ∨ wrote nb e k'
    · exact H.inj k k' b (by rw [← hbi k hc]; exact h1) (by rw [← hbi k' hc']; exact h2)
    · exact (cross k k' hc hc' h1 h2).elim
    · exact (cross k' k hc' hc h2 h1).elim
    · simp only [not_or] at hc hc'
      exact h.inj k k' b (by rw [← hbk k hc.1 hc.2]; exact h1) (by rw [← hbk k' hc'.1 hc'.2]; exact h2)
  · refine h.fr.trans ⟨H.fr.os, H.fr.tape, H.fr.output, H.fr.size, fun b hb hl => H.fr.block b ⟨hl, fun ho => ?_⟩ hl⟩
    obtain ⟨k, _, hk'⟩ := owned_res.1 ho
    exact h.own b ⟨k, hk'⟩ hb
  · rcases (hown b).1 hb with q | ⟨k, _, hk'⟩
    · refine H.own b q ⟨Nat.lt_of_lt_of_le (h.kl b hk) h.fr.size, fun ho => ?_⟩
      obtain ⟨k, _, hk'⟩ := owned_res.1 ho
      exact h.own b ⟨k, hk'⟩ hk
    · exact h.own b ⟨k, hk'⟩ hk
  · rcases (hown b).1 hb with q | ⟨k, _, hk'⟩
    · exact H.ox b q (.inl hx)
    · exact h.ox b ⟨k, hk'⟩ hx

/-- An operation over what it names alone. -/
theorem evOp_local (hP : TabOK P TT) (hΔ : CallsOK P Δ) {T : Nat → AV} {a : Act} (h : FRel X keep w0 n ι T C a w) {o : Oper} {l m : List Nat} {nb : Nat} {e : Eff}
    (hev : evOp TT Δ o (resT l T) (resC m C) nb (R := Eff) some = some e) (hsub : ∀ k ∈ updIds e.upd, k ∈ m) (hn : ∀ k, nb ≤ k → k < nb + e.new.length → ι k = none) {Q : Exit → Act → World → Prop} :
    o.wp P a w (fun a' w' => ∃ v, a' = a.put o.dst v ∧ Out X keep w0 ι C w nb e v w') Q := by
  have hH := h.h.res m
  have hokw : okb (Foreign X ι C m) w ι (resC m C) = okb X w ι C := funext fun b => propext (okb_res m b)
  have hT : ∀ t, RelV w (okb (Foreign X ι C m) w ι (resC m C)) ι (resT l T t) (a.tmps.getD t undef) := by
    intro t
    rw [hokw]
    unfold resT
    split
    · exact h.tm t
    · simp only [RelV]
  refine Oper.wp_mono ?_ (evOp_sound hP hΔ hH hT hev hn (Q := Q))
  rintro a' w' ⟨v, e1, ho⟩
  exact ⟨v, e1, ho.back h.h hsub hn⟩
end
end Go.Proofs.Rf
