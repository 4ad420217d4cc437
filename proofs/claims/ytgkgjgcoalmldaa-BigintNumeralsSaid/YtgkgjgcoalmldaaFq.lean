/- Rf, part q: a state cut down to what is wanted of it; loops; code. -/
import Derived.Test.YtgkgjgcoalmldaaFp
namespace Go.Proofs.Rf
open Go Go.RowKit

/-! ### A state cut down -/
def posN (k : Nat) : List Nat → Option Nat
  | [] => none
  | j :: r => if Nat.beq j k = true then some 0 else match posN k r with
    | some i => some (i + 1)
    | none => none

mutual
def AV.ren (C : Nat → Blk) (f : Nat → Option Nat) : AV → AV
  | .d t x => .d t x
  | .un => .un
  | .ud => .ud
  | .nl => .nl
  | .ub => .ub
  | .np => .np
  | .rf b => match C b with
    | .row t _ xs false => .d (.sl t) xs
    | _ => match f b with
      | some j => .rf j
      | none => .un
  | .rs b sz off len => match f b with
    | some j => .rs j sz off len
    | none => .un
  | .pt b o => match f b with
    | some j => .pt j o
    | none => .un
  | .pe b sz i o => match f b with
    | some j => .pe j sz i o
    | none => .un
  | .ve cs => .ve (AV.renL C f cs)
  | .ag cs => .ag (AV.renL C f cs)
  | .tp cs => .tp (AV.renL C f cs)
  | .fn g cs => .fn g (AV.renL C f cs)
  | .fm g cs => .fm g (AV.renL C f cs)
def AV.renL (C : Nat → Blk) (f : Nat → Option Nat) : List AV → List AV
  | [] => []
  | a :: r => a.ren C f :: AV.renL C f r
end

def Blk.ren (C : Nat → Blk) (f : Nat → Option Nat) : Blk → Blk
  | .box cs => .box (AV.renL C f cs)
  | b => b

def Blk.ids : Blk → List Nat
  | .box cs => AV.idsL cs
  | _ => []

def Blk.frozen : Blk → Bool
  | .row _ _ _ false => true
  | _ => false

/-- The blocks that are reached. -/
def reachN (C : Nat → Blk) : Nat → List Nat → List Nat → List Nat
  | 0, _, done => done
  | _ + 1, [], done => done
  | k + 1, i :: todo, done => if memN i done = true then reachN C k todo done else reachN C k ((C i).ids ++ todo) (done ++ [i])

def unfrozen (C : Nat → Blk) (T : Nat → AV) : List Nat → List Nat
  | [] => []
  | t :: r => (match T t with
    | .rf b => if (C b).frozen = true then [] else [b]
    | v => v.ids) ++ unfrozen C T r

def cutIds (live : List Nat) (s : St) : List Nat := reachN (getB s.bl) 64 (unfrozen (getB s.bl) (getT s.tm) live) []

def cutT (C : Nat → Blk) (f : Nat → Option Nat) (T : Nat → AV) : List Nat → List (Nat × AV)
  | [] => []
  | t :: r => (t, (T t).ren C f) :: cutT C f T r

def cutB (C : Nat → Blk) (f : Nat → Option Nat) : List Nat → List Blk
  | [] => []
  | i :: r => (C i).ren C f :: cutB C f r

def cut (live : List Nat) (s : St) : St :=
  ⟨cutT (getB s.bl) (fun k => posN k (cutIds live s)) (getT s.tm) live, cutB (getB s.bl) (fun k => posN k (cutIds live s)) (cutIds live s)⟩

theorem posN_get {k : Nat} : ∀ {l : List Nat} {i : Nat}, posN k l = some i → l[i]? = some k
  | [], _, h => by cases h
  | j :: r, i, h => by
    unfold posN at h
    split at h
    · rename_i hj
      injection h with h
      subst h
      rw [Nat.eq_of_beq_eq_true hj]
      rfl
    · cases hp : posN k r with
      | none => rw [hp] at h; cases h
      | some m =>
        rw [hp] at h
        injection h with h
        subst h
        simpa using posN_get hp

theorem reachN_nodup (C : Nat → Blk) : ∀ (n : Nat) (todo done : List Nat), done.Nodup → (reachN C n todo done).Nodup
  | 0, _, _, h => h
  | _ + 1, [], _, h => h
  | n + 1, i :: todo, done, h => by
    unfold reachN
    split
    · exact reachN_nodup C n _ _ h
    · rename_i hm
      refine reachN_nodup C n _ _ ?_
      rw [List.nodup_append]
      refine ⟨h, by simp, fun a ha b hb => ?_⟩
      rw [List.mem_singleton] at hb
      subst hb
      intro e
      subst e
      exact hm (memN_iff.2 ha)

theorem cutB_get (C : Nat → Blk) (f : Nat → Option Nat) : ∀ (l : List Nat) (j : Nat), getB (cutB C f l) j = match l[j]? with
    | some i => (C i).ren C f
    | none => .dead
  | [], j => by simp [cutB, getB]
  | i :: r, 0 => rfl
  | i :: r, j + 1 => by
    show getB (cutB C f r) j = _
    rw [cutB_get C f r j]
    simp

theorem cutB_length (C : Nat → Blk) (f : Nat → Option Nat) : ∀ (l : List Nat), (cutB C f l).length = l.length
  | [] => rfl
  | _ :: r => by simp [cutB, cutB_length C f r]

section
variable {X keep : Nat → Prop} {w0 w : World} {ι ι' : Nat → Option Value} {C : Nat → Blk} {ok ok' : Nat → Prop} {f : Nat → Option Nat}

mutual
theorem AV.ren_rel (hok : ∀ g, ok g → ok' g) (hB : ∀ k, RelB w ok ι k (C k)) (hf : ∀ k j, f k = some j → ι' j = ι k) : ∀ (v : AV) (u : Value), RelV w ok ι v u → RelV w ok' ι' (v.ren C f) u
  | .d t x, u, h => by
    simp only [RelV, AV.ren] at h ⊢
    exact Rz_mono (fun _ _ _ _ e => e) hok t x _ h
  | .un, _, _ => by simp only [RelV, AV.ren]
  | .ud, _, h => by simpa only [RelV, AV.ren] using h
  | .nl, _, h => by simpa only [RelV, AV.ren] using h
  | .ub, _, h => by simpa only [RelV, AV.ren] using h
  | .np, _, h => by simpa only [RelV, AV.ren] using h
  | .rf b, u, h => by
    simp only [RelV] at h
    have hb := hB b
    simp only [AV.ren]
    split
    · rename_i t e xs hC
      rw [hC] at hb
      obtain ⟨v, h1, _, h3⟩ := hb
      rw [h.1] at h1
      injection h1 with h1
      subst h1
      simp only [RelV]
      exact Rz_mono (fun _ _ _ _ e => e) hok _ _ _ h3
    · split
      · rename_i j hj
        simp only [RelV]
        rw [hf b j hj]
        exact h
      · simp only [RelV]
  | .rs b sz off len, u, h => by
    simp only [RelV] at h
    simp only [AV.ren]
    split
    · rename_i j hj
      simp only [RelV]
      rw [hf b j hj]
      exact h
    · simp only [RelV]
  | .pt b o, u, h => by
    simp only [RelV] at h
    simp only [AV.ren]
    split
    · rename_i j hj
      simp only [RelV]
      rw [hf b j hj]
      exact h
    · simp only [RelV]
  | .pe b sz i o, u, h => by
    simp only [RelV] at h
    simp only [AV.ren]
    split
    · rename_i j hj
      simp only [RelV]
      rw [hf b j hj]
      exact h
    · simp only [RelV]
  | .ve cs, u, h => by
    simp only [RelV, AV.ren] at h ⊢
    obtain ⟨g, o, us, h1, h2, h3, h4⟩ := h
    exact ⟨g, o, us, h1, hok _ h2, AV.renL_rel hok hB hf cs us h3, h4⟩
  | .ag cs, u, h => by
    simp only [RelV, AV.ren] at h ⊢
    obtain ⟨us, h1, h2⟩ := h
    exact ⟨us, h1, AV.renL_rel hok hB hf cs us h2⟩
  | .tp cs, u, h => by
    simp only [RelV, AV.ren] at h ⊢
    obtain ⟨us, h1, h2⟩ := h
    exact ⟨us, h1, AV.renL_rel hok hB hf cs us h2⟩
  | .fn g cs, u, h => by
    simp only [RelV, AV.ren] at h ⊢
    obtain ⟨us, h1, h2⟩ := h
    exact ⟨us, h1, AV.renL_rel hok hB hf cs us h2⟩
  | .fm g cs, u, h => by
    simp only [RelV, AV.ren] at h ⊢
    obtain ⟨us, h1, h2⟩ := h
    exact ⟨us, h1, AV.renL_rel hok hB hf cs us h2⟩
theorem AV.renL_rel (hok : ∀ g, ok g → ok' g) (hB : ∀ k, RelB w ok ι k (C k)) (hf : ∀ k j, f k = some j → ι' j = ι k) : ∀ (cs : List AV) (us : List Value), RelL w ok ι cs us → RelL w ok' ι' (AV.renL C f cs) us
  | [], us, h => by simpa only [RelL, AV.renL] using h
  | a :: r, us, h => by
    simp only [RelL, AV.renL] at h ⊢
    obtain ⟨v, vr, h1, h2, h3⟩ := h
    exact ⟨v, vr, h1, AV.ren_rel hok hB hf a v h2, AV.renL_rel hok hB hf r vr h3⟩
end

theorem Blk.ren_rel (hok : ∀ g, ok g → ok' g) (hB : ∀ k, RelB w ok ι k (C k)) (hf : ∀ k j, f k = some j → ι' j = ι k) {i j : Nat} (hi : ι' j = ι i) : RelB w ok' ι' j ((C i).ren C f) := by
  have hb := hB i
  cases hC : C i with
  | row t e xs rw =>
    rw [hC] at hb
    cases rw with
    | true =>
      obtain ⟨v, cs, h1, h2, h3⟩ := hb
      exact ⟨v, cs, by rw [hi]; exact h1, h2, RzL_mono (Rz_mono (fun _ _ _ _ e => e) hok t) h3⟩
    | false =>
      obtain ⟨v, h1, h0, h2⟩ := hb
      exact ⟨v, by rw [hi]; exact h1, h0, Rz_mono (fun _ _ _ _ e => e) hok _ _ _ h2⟩
  | box cs =>
    rw [hC] at hb
    obtain ⟨g, e, us, h1, h2, h3⟩ := hb
    exact ⟨g, e, us, by rw [hi]; exact h1, h2, AV.renL_rel hok hB hf cs us h3⟩
  | it s pos =>
    rw [hC] at hb
    obtain ⟨g, h1, h2⟩ := hb
    exact ⟨g, by rw [hi]; exact h1, h2⟩
  | dead => trivial

theorem bk_ren {i j : Nat} {C' : Nat → Blk} (hC : C' j = (C i).ren C f) (hi : ι' j = ι i) : bk ι' C' j = bk ι C i := by
  unfold bk
  rw [hC, hi]
  cases C i with
  | box cs =>
    show (match Blk.box (AV.renL C f cs), ι i with
      | .row _ _ _ true, some v => v.ownBlock
      | .box _, some (.pointer (some a)) => some a.block
      | .it _ _, some (.pointer (some a)) => some a.block
      | _, _ => none) = _
    cases ι i with
    | none => rfl
    | some v =>
      cases v <;> try rfl
      rename_i p
      cases p <;> rfl
  | row t e xs rw => rfl
  | it s pos => rfl
  | dead => rfl

theorem cutT_get (live : List Nat) (C : Nat → Blk) (f : Nat → Option Nat) (T : Nat → AV) (t : Nat) : getT (cutT C f T live) t = .un ∨ getT (cutT C f T live) t = (T t).ren C f := by
  induction live with
  | nil => exact .inl rfl
  | cons u r ih =>
    show (if Nat.beq u t = true then _ else _) = _ ∨ (if Nat.beq u t = true then _ else _) = _
    split
    · rename_i h
      rw [Nat.eq_of_beq_eq_true h]
      exact .inr rfl
    · exact ih

theorem SRel.cut {n : Slots} {s : St} {a : Act} (h : SRel X keep w0 n ι s a w) (live : List Nat) : ∃ ι', SRel X keep w0 n ι' (cut live s) a w := by
  let ids := cutIds live s
  let f : Nat → Option Nat := fun k => posN k ids
  have hnd : ids.Nodup := reachN_nodup _ _ _ _ List.nodup_nil
  let ι' : Nat → Option Value := fun j => (ids[j]?).bind ι
  let C' := getB (Rf.cut live s).bl
  have hC' : ∀ j, C' j = match ids[j]? with
      | some i => (getB s.bl i).ren (getB s.bl) f
      | none => .dead := fun j => cutB_get _ f ids j
  have hι' : ∀ j i, ids[j]? = some i → ι' j = ι i := fun j i e => by show (ids[j]?).bind ι = _; rw [e]; rfl
  have hf : ∀ k j, f k = some j → ι' j = ι k := fun k j e => hι' j k (posN_get e)
  have hbk : ∀ j b, bk ι' C' j = some b → ∃ i, ids[j]? = some i ∧ bk ι (getB s.bl) i = some b := by
    intro j b hb
    cases hi : ids[j]? with
    | none =>
      have h1 : C' j = .dead := by rw [hC' j, hi]
      rw [bk_dead h1] at hb
      cases hb
    | some i =>
      refine ⟨i, rfl, ?_⟩
      rw [← hb]
      exact (bk_ren (by rw [hC' j, hi]) (hι' j i hi)).symm
  have hown : ∀ b, owned ι' C' b → owned ι (getB s.bl) b := by
    rintro b ⟨j, hj⟩
    obtain ⟨i, _, hi⟩ := hbk j b hj
    exact ⟨i, hi⟩
  have hok : ∀ b, okb X w ι (getB s.bl) b → okb X w ι' C' b := fun b hb => ⟨hb.1, fun ho => hb.2.1 (hown b ho), hb.2.2⟩
  refine ⟨ι', ⟨⟨fun j => ?_, fun j j' b h1 h2 => ?_, h.f.h.fr, fun b hb => h.f.h.own b (hown b hb), h.f.h.kl, fun b hb => h.f.h.ox b (hown b hb), h.f.h.xl⟩, fun t => ?_, h.f.size, h.f.defers⟩, fun j hj => ?_⟩
  · show RelB w (okb X w ι' C') ι' j (C' j)
    rw [hC' j]
    cases hi : ids[j]? with
    | none => trivial
    | some i => exact Blk.ren_rel hok h.f.h.bl hf (hι' j i hi)
  · obtain ⟨i, hi, hb⟩ := hbk j b h1
    obtain ⟨i', hi', hb'⟩ := hbk j' b h2
    have e := h.f.h.inj i i' b hb hb'
    subst e
    have hlt := (List.getElem?_eq_some_iff.1 hi).1
    exact (List.getElem?_inj hlt hnd).1 (hi.trans hi'.symm)
  · rcases cutT_get live (getB s.bl) f (getT s.tm) t with e | e
    · show RelV w (okb X w ι' C') ι' (getT (cutT (getB s.bl) f (getT s.tm) live) t) _
      rw [e]
      simp only [RelV]
    · show RelV w (okb X w ι' C') ι' (getT (cutT (getB s.bl) f (getT s.tm) live) t) _
      rw [e]
      exact AV.ren_rel hok h.f.h.bl hf _ _ (h.f.tm t)
  · have hl : (Rf.cut live s).bl.length = ids.length := cutB_length _ _ _
    show (ids[j]?).bind ι = none
    rw [List.getElem?_eq_none (by omega)]
    rfl

/-- A block that holds no cells is turned, or there is more memory: nothing that is told is touched. -/
theorem HRel.quiet (h : HRel X keep w0 ι C w) {w' : World} (r : Nat) (hos : w'.os = w.os) (htape : w'.tape = w.tape) (hout : w'.output = w.output) (hsz : w.heap.size ≤ w'.heap.size)
    (hh : ∀ b, b ≠ r → b < w.heap.size → w'.heap[b]? = w.heap[b]?) (hc : ∀ o v, w.cell? ⟨r, o, none⟩ = some v → False) (hb : ∀ b, owned ι C b → b ≠ r) (hk : ¬ keep r) :
    HRel X keep w0 ι C w' ∧ ∀ v u, RelV w (okb X w ι C) ι v u → RelV w' (okb X w' ι C) ι v u := by
  have hok : ∀ g, okb X w ι C g → okb X w' ι C g := fun g hg => ⟨Nat.lt_of_lt_of_le hg.1 hsz, hg.2⟩
  have hcell : ∀ g o v, okb X w ι C g → w.cell? ⟨g, o, none⟩ = some v → w'.cell? ⟨g, o, none⟩ = some v := by
    intro g o v hg hv
    by_cases e : g = r
    · subst e; exact (hc o v hv).elim
    · rw [← hv]; exact World.cell?_of_block (hh g e hg.1)
  have hown : ∀ b, owned ι C b → w'.heap[b]? = w.heap[b]? := fun b ho => hh b (hb b ho) (h.lt ho)
  refine ⟨⟨fun k => ?_, h.inj, ⟨hos.trans h.fr.os, htape.trans h.fr.tape, hout.trans h.fr.output, Nat.le_trans h.fr.size hsz, fun b hb' hl => ?_⟩, h.own, h.kl, h.ox, h.xl⟩, fun v u hv => RelV_mono hcell hok (fun _ _ e => e) v u hv⟩
  · have hB := h.bl k
    cases hC : C k with
    | row t e xs rw =>
      rw [hC] at hB
      cases rw with
      | true =>
        obtain ⟨v, cs, h1, h2, h3⟩ := hB
        refine ⟨v, cs, h1, ⟨h2.1, ?_⟩, RzL_mono (Rz_mono hcell hok t) h3⟩
        rcases h2.2 with h4 | ⟨g, cap, cur, hv, h5, h6, h7⟩
        · exact .inl h4
        · refine .inr ⟨g, cap, cur, hv, h5, ?_, h7⟩
          rw [hown g ⟨k, by unfold bk; rw [hC, h1, hv]; rfl⟩]
          exact h6
      | false =>
        obtain ⟨v, h1, h0, h2⟩ := hB
        exact ⟨v, h1, h0, Rz_mono hcell hok _ _ _ h2⟩
    | box cs =>
      rw [hC] at hB
      obtain ⟨g, e, us, h1, h2, h3⟩ := hB
      refine ⟨g, e, us, h1, ?_, RelL_mono hcell hok (fun _ _ e => e) cs us h3⟩
      rw [hown g ⟨k, by unfold bk; rw [hC, h1]⟩]
      exact h2
    | it s pos =>
      rw [hC] at hB
      obtain ⟨g, h1, h2⟩ := hB
      refine ⟨g, h1, ?_⟩
      rw [hown g ⟨k, by unfold bk; rw [hC, h1]⟩]
      exact h2
    | dead => trivial
  · have hne : b ≠ r := by rintro rfl; exact hk hb'
    rw [hh b hne (Nat.lt_of_lt_of_le hl h.fr.size)]
    exact h.fr.block b hb' hl

/-- Less is asked to be kept. -/
theorem HRel.weaken (h : HRel X keep w0 ι C w) {keep1 : Nat → Prop} {w1 : World} (hk : ∀ b, keep1 b → keep b) (hw : Kept keep1 w1 w0) (hl : ∀ b, keep1 b → b < w1.heap.size) (hx : ∀ b, X b → b < w1.heap.size) : HRel X keep1 w1 ι C w :=
  ⟨h.bl, h.inj, hw.trans (h.fr.weak hk), fun b hb hb' => h.own b hb (hk b hb'), hl, h.ox, hx⟩

/-- From here on all is kept that is no one's own. -/
theorem HRel.rebase (h : HRel X keep w0 ι C w) : HRel X (fun b => b < w.heap.size ∧ ¬ owned ι C b) w ι C w :=
  ⟨h.bl, h.inj, Kept.refl _ _, fun _ hb hb' => hb'.2 hb, fun _ hb => hb.1, h.ox, fun b hb => Nat.lt_of_lt_of_le (h.xl b hb) h.fr.size⟩
end
end Go.Proofs.Rf
