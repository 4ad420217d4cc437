/- Rf, part A: contracts of functions that are handed pointers or rows of the caller's own: definitions. -/
import Derived.Test.YtgkgjgcoalmldaaFz
namespace Go.Proofs.Rf
open Go Go.RowKit

mutual
/-- A result's value, where its blocks are renamed. -/
def SV.re (f : Nat → Nat) : (s : SV) → s.den → AV
  | .d agg t, x => avD agg t x
  | .rs b sz, p => .rs (f b) sz p.1 p.2
  | .rz b sz, p => .rs (f b) sz 0 p
  | .fn g cs, x => .fn g (SV.reL f cs x)
  | .rf b, _ => .rf (f b)
  | .pt b o, _ => .pt (f b) o
  | .ud, _ => .ud
def SV.reL (f : Nat → Nat) : (l : List SV) → SV.denL l → List AV
  | [], _ => []
  | a :: r, x => a.re f x.1 :: SV.reL f r x.2
end

def reS (f : Nat → Nat) : (l : List (Nat × SV)) → denS l → List AV
  | [], _ => []
  | p :: r, x => p.2.re f x.1 :: reS f r x.2

def SB.re (f : Nat → Nat) : (s : SB) → s.den → Blk
  | .row t e, xs => .row t e xs true
  | .box cs, x => .box (SV.reL f cs x)
  | .it, _ => .dead

def reB (f : Nat → Nat) : (l : List SB) → denB l → List Blk
  | [], _ => []
  | a :: r, x => a.re f x.1 :: reB f r x.2

/-- Where a result's block lies: the first ones are blocks that were handed in, the others are new. -/
def rnB (ρ m : List Nat) (nb b : Nat) : Nat := match m[b]? with
  | some k => ρ.getD k 0
  | none => nb + (b - m.length)

def posM (k : Nat) : Nat → List Nat → Option Nat
  | _, [] => none
  | i, j :: r => if Nat.beq j k = true then some i else posM k (i + 1) r

/-- What the blocks that were handed in become. -/
def updRe (m : List Nat) (bs : List Blk) : Nat → List Nat → List (Nat × Blk)
  | _, [] => []
  | k, i :: r => (i, match posM k 0 m with
    | some j => getB bs j
    | none => .dead) :: updRe m bs (k + 1) r

/-- A call, over data, of a function that is handed blocks; m names the handed ones that its first blocks are at the end; the first np values at the end are its parameters. -/
def mkCallB (psh rsh : Shape) (m : List Nat) (np : Nat) (F : psh.den → Option rsh.den) : CallO := fun args C nb _ K =>
  if (nodupN (blkB C psh.bl 0 (blkS (getT (numT 0 args)) psh.sl [])) && Nat.beq args.length psh.sl.length) = true then
    (match takeS C (getT (numT 0 args)) (blkB C psh.bl 0 (blkS (getT (numT 0 args)) psh.sl [])) psh.sl with
    | some (x, f) => match takeB C (blkB C psh.bl 0 (blkS (getT (numT 0 args)) psh.sl [])) psh.bl (blkB C psh.bl 0 (blkS (getT (numT 0 args)) psh.sl [])) with
      | some (y, g) => if meetN (blkB C psh.bl 0 (blkS (getT (numT 0 args)) psh.sl [])) (updIds (f ++ g)) = true then none else
          (F (x, y)).bind fun z => K ⟨retV ((reS (rnB (blkB C psh.bl 0 (blkS (getT (numT 0 args)) psh.sl [])) m nb) rsh.sl z.1).drop np),
            (if rsh.flat = true then [] else f ++ g) ++ updRe m (reB (rnB (blkB C psh.bl 0 (blkS (getT (numT 0 args)) psh.sl [])) m nb) rsh.bl z.2) 0 (blkB C psh.bl 0 (blkS (getT (numT 0 args)) psh.sl [])),
            (reB (rnB (blkB C psh.bl 0 (blkS (getT (numT 0 args)) psh.sl [])) m nb) rsh.bl z.2).drop m.length⟩
      | none => none
    | none => none)
  else none

/-- A function's body, over data, its first np parameters kept to the end. -/
noncomputable def runFB (TT : Tab) (Δ : Nat → Option CallO) (n : Nat → Bool) (Λ : Nat → Option LoopO) (c : Code) (rvs : List ResultVar) (psh rsh : Shape) (np : Nat) (x : psh.den) : Option rsh.den :=
  evC TT Δ n Λ c (psh.put x) fun e s => match e with
    | .ex _ => none
    | .nm => (match retsOf TT s rvs with
      | some vs => rsh.take ⟨numT 0 ((rangeN 0 np).map (getT s.tm) ++ vs), s.bl⟩
      | none => none)
    | .rt => (match retsOf TT s rvs with
      | some vs => rsh.take ⟨numT 0 ((rangeN 0 np).map (getT s.tm) ++ vs), s.bl⟩
      | none => none)

/-- Values that name a block from its beginning on. -/
def rootOf : SV → SV → Option (Nat × Nat)
  | .rf a, .rf b => some (a, b)
  | .pt a _, .pt b _ => some (a, b)
  | _, _ => none

/-- Some parameter tells that block j at the end is block k that was handed in. -/
def rootAt (j k : Nat) : Nat → List (Nat × SV) → List (Nat × SV) → Bool
  | 0, _, _ => false
  | np + 1, p :: r, p' :: r' => (match rootOf p'.2 p.2 with
    | some (a, b) => Nat.beq a j && Nat.beq b k
    | none => false) || rootAt j k np r r'
  | _, _, _ => false

def rootsOk (psh rsh : Shape) (np : Nat) : Nat → List Nat → Bool
  | _, [] => true
  | j, k :: r => rootAt j k np psh.sl rsh.sl && rootsOk psh rsh np (j + 1) r

section
variable {w' : World} {ok ok' : Nat → Prop} {ι2 ι'' : Nat → Option Value} {fl : Bool} {f : Nat → Nat}

mutual
theorem SV.re_rel (hok : fl = false → ∀ b, ok b → ok' b) (hι : ∀ b v, ι2 b = some v → ι'' (f b) = some v) : ∀ (sv : SV) (x : sv.den) (u : Value), (fl = true → sv.flat = true) → RelV w' ok ι2 (sv.put x) u → RelV w' ok' ι'' (sv.re f x) u
  | .d agg t, x, u, hf, h => avD_mv hok hf h
  | .rs b sz, p, u, _, h => by
    simp only [SV.put, SV.re, RelV] at h ⊢
    obtain ⟨A, n, c, A', c', h1, h2⟩ := h
    exact ⟨A, n, c, A', c', hι _ _ h1, h2⟩
  | .rz b sz, p, u, _, h => by
    simp only [SV.put, SV.re, RelV] at h ⊢
    obtain ⟨A, n, c, A', c', h1, h2⟩ := h
    exact ⟨A, n, c, A', c', hι _ _ h1, h2⟩
  | .fn g cs, x, u, hf, h => by
    simp only [SV.put, SV.re, RelV] at h ⊢
    obtain ⟨us, e, h1⟩ := h
    exact ⟨us, e, SV.reL_rel hok hι cs x us hf h1⟩
  | .rf b, x, u, _, h => by
    simp only [SV.put, SV.re, RelV] at h ⊢
    exact ⟨hι _ _ h.1, h.2⟩
  | .pt b o, x, u, _, h => by
    simp only [SV.put, SV.re, RelV] at h ⊢
    obtain ⟨g, h1, h2⟩ := h
    exact ⟨g, hι _ _ h1, h2⟩
  | .ud, x, u, _, h => by
    simp only [SV.put, SV.re, RelV] at h ⊢
    exact h
theorem SV.reL_rel (hok : fl = false → ∀ b, ok b → ok' b) (hι : ∀ b v, ι2 b = some v → ι'' (f b) = some v) : ∀ (l : List SV) (x : SV.denL l) (us : List Value), (fl = true → SV.flatL l = true) → RelL w' ok ι2 (SV.putL l x) us → RelL w' ok' ι'' (SV.reL f l x) us
  | [], x, us, _, h => by simpa only [SV.putL, SV.reL, RelL] using h
  | a :: r, x, us, hf, h => by
    simp only [SV.putL, SV.reL, RelL] at h ⊢
    obtain ⟨v, vr, e, h1, h2⟩ := h
    have hf' : fl = true → a.flat = true ∧ SV.flatL r = true := fun q => by
      have := hf q
      simpa only [SV.flatL, Bool.and_eq_true] using this
    exact ⟨v, vr, e, SV.re_rel hok hι a x.1 v (fun q => (hf' q).1) h1, SV.reL_rel hok hι r x.2 vr (fun q => (hf' q).2) h2⟩
end

theorem SB.re_rel (hok : fl = false → ∀ b, ok b → ok' b) (hι : ∀ b v, ι2 b = some v → ι'' (f b) = some v) {j : Nat} : ∀ (sb : SB) (x : sb.den), (fl = true → sb.flat = true) → RelB w' ok ι2 j (sb.put x) → RelB w' ok' ι'' (f j) (sb.re f x)
  | .row t e, xs, hf, h => by
    obtain ⟨v, cs, h1, h2, h3⟩ := h
    refine ⟨v, cs, hι _ _ h1, h2, RzL_mono (fun x us hx => ?_) h3⟩
    cases hfl : fl with
    | true => exact Rz_flat t x us (hf hfl) hx
    | false => exact Rz_mono (fun _ _ _ _ e => e) (hok hfl) t x us hx
  | .box cs, x, hf, h => by
    obtain ⟨g, e, us, h1, h2, h3⟩ := h
    exact ⟨g, e, us, hι _ _ h1, h2, SV.reL_rel hok hι cs x us hf h3⟩
  | .it, _, _, _ => trivial

theorem SB.re_bk {C2 C'' : Nat → Blk} {j : Nat} {b : Nat} (hι : ∀ b v, ι2 b = some v → ι'' (f b) = some v) : ∀ (sb : SB) (y : sb.den), RelB w' ok ι2 j (sb.put y) → C'' (f j) = sb.re f y → C2 j = sb.put y → bk ι'' C'' (f j) = some b → bk ι2 C2 j = some b
  | .row t e, xs, hB, h1, h2, h => by
    obtain ⟨v, cs, hv, _⟩ := hB
    unfold bk at h ⊢
    rw [h1, hι j v hv] at h
    rw [h2, hv]
    exact h
  | .box cs, x, hB, h1, h2, h => by
    obtain ⟨g, e, us, hv, _⟩ := hB
    unfold bk at h ⊢
    rw [h1, hι j _ hv] at h
    rw [h2, hv]
    exact h
  | .it, _, _, h1, _, h => by
    rw [bk_dead h1] at h
    cases h
end

theorem reB_length (f : Nat → Nat) : ∀ (l : List SB) (x : denB l), (reB f l x).length = l.length
  | [], _ => rfl
  | _ :: r, x => by simp [reB, reB_length f r x.2]

theorem reB_get (f : Nat → Nat) : ∀ (l : List SB) (x : denB l) (j : Nat), (getB (reB f l x) j = .dead ∧ l.length ≤ j) ∨ ∃ sb, l[j]? = some sb ∧ ∃ y : sb.den, getB (reB f l x) j = sb.re f y ∧ getB (putB l x) j = sb.put y
  | [], _, j => .inl ⟨rfl, Nat.zero_le j⟩
  | a :: r, x, 0 => .inr ⟨a, rfl, x.1, rfl, rfl⟩
  | a :: r, x, j + 1 => by
    rcases reB_get f r x.2 j with h | ⟨sb, h1, y, h2, h3⟩
    · exact .inl ⟨h.1, by simpa using h.2⟩
    · exact .inr ⟨sb, by simpa using h1, y, h2, h3⟩

theorem getB_drop : ∀ (l : List Blk) (k j : Nat), getB (l.drop k) j = getB l (k + j)
  | [], k, j => by simp [getB]
  | b :: r, 0, j => by simp
  | b :: r, k + 1, j => by
    rw [List.drop_succ_cons, getB_drop r k j, show k + 1 + j = (k + j) + 1 by omega]
    rfl

theorem posM_iff : ∀ {m : List Nat} {k i j : Nat}, posM k i m = some j → i ≤ j ∧ m[j - i]? = some k
  | [], _, _, _, h => by cases h
  | a :: r, k, i, j, h => by
    simp only [posM] at h
    split at h
    · rename_i hb
      injection h with h
      subst h
      rw [Nat.sub_self, Nat.eq_of_beq_eq_true hb]
      exact ⟨Nat.le_refl _, rfl⟩
    · obtain ⟨h1, h2⟩ := posM_iff h
      refine ⟨by omega, ?_⟩
      rw [show j - i = (j - (i + 1)) + 1 by omega]
      simpa using h2

theorem posM_none : ∀ {m : List Nat} {k i : Nat}, posM k i m = none → k ∉ m
  | [], _, _, _ => by simp
  | a :: r, k, i, h => by
    simp only [posM] at h
    split at h
    · cases h
    · rename_i hb
      rw [List.mem_cons, not_or]
      exact ⟨fun e => hb (by rw [e]; exact Nat.beq_refl _), posM_none h⟩

theorem updRe_ids (m : List Nat) (bs : List Blk) : ∀ (k : Nat) (l : List Nat), updIds (updRe m bs k l) = l
  | _, [] => rfl
  | k, i :: r => by simp only [updRe, updIds, updRe_ids m bs (k + 1) r]

theorem updRe_at (m : List Nat) (bs : List Blk) : ∀ (l : List Nat) (k0 k i : Nat) (C : Nat → Blk), l.Nodup → l[k]? = some i → updC C (updRe m bs k0 l) i = match posM (k0 + k) 0 m with
    | some j => getB bs j
    | none => .dead
  | [], _, _, _, _, _, h => by simp at h
  | a :: r, k0, 0, i, C, hn, h => by
    simp only [List.getElem?_cons_zero, Option.some.injEq] at h
    subst h
    show updC (setC C a _) (updRe m bs (k0 + 1) r) a = _
    rw [updC_other _ _ _ (by rw [updRe_ids]; exact (List.nodup_cons.1 hn).1), setC_self]
    rfl
  | a :: r, k0, k + 1, i, C, hn, h => by
    show updC (setC C a _) (updRe m bs (k0 + 1) r) i = _
    rw [updRe_at m bs r (k0 + 1) k i _ (List.nodup_cons.1 hn).2 (by simpa using h), show k0 + 1 + k = k0 + (k + 1) by omega]

theorem rootAt_iff : ∀ {np : Nat} {j k i : Nat} {l l' : List (Nat × SV)}, rootAt j k np l l' = true → slotsFrom i l = true → slotsFrom i l' = true → ∃ t, i ≤ t ∧ t < i + np ∧ ∃ sv sv', l[t - i]? = some (t, sv) ∧ l'[t - i]? = some (t, sv') ∧ rootOf sv' sv = some (j, k)
  | 0, _, _, _, _, _, h, _, _ => by simp [rootAt] at h
  | np + 1, _, _, _, [], _, h, _, _ => by simp [rootAt] at h
  | np + 1, _, _, _, _ :: _, [], h, _, _ => by simp [rootAt] at h
  | np + 1, j, k, i, p :: r, p' :: r', h, h1, h2 => by
    simp only [slotsFrom, Bool.and_eq_true] at h1 h2
    have e1 := Nat.eq_of_beq_eq_true h1.1
    have e2 := Nat.eq_of_beq_eq_true h2.1
    simp only [rootAt, Bool.or_eq_true] at h
    rcases h with h | h
    · split at h
      · rename_i a b hr
        simp only [Bool.and_eq_true] at h
        rw [Nat.eq_of_beq_eq_true h.1, Nat.eq_of_beq_eq_true h.2] at hr
        obtain ⟨t, sv⟩ := p
        obtain ⟨t', sv'⟩ := p'
        simp only at e1 e2 hr
        subst e1
        subst e2
        exact ⟨_, Nat.le_refl _, by omega, sv, sv', by simp, by simp, hr⟩
      · cases h
    · obtain ⟨t, q1, q2, sv, sv', q3, q4, q5⟩ := rootAt_iff h h1.2 h2.2
      refine ⟨t, by omega, by omega, sv, sv', ?_, ?_, q5⟩
      · rw [show t - i = (t - (i + 1)) + 1 by omega]; simpa using q3
      · rw [show t - i = (t - (i + 1)) + 1 by omega]; simpa using q4

theorem rootsOk_iff {psh rsh : Shape} {np : Nat} : ∀ {m : List Nat} {j0 : Nat}, rootsOk psh rsh np j0 m = true → ∀ j k, m[j]? = some k → rootAt (j0 + j) k np psh.sl rsh.sl = true
  | [], _, _, j, k, h => by simp at h
  | a :: r, j0, hr, 0, k, h => by
    simp only [List.getElem?_cons_zero, Option.some.injEq] at h
    subst h
    simp only [rootsOk, Bool.and_eq_true] at hr
    exact hr.1
  | a :: r, j0, hr, j + 1, k, h => by
    simp only [rootsOk, Bool.and_eq_true] at hr
    have := rootsOk_iff hr.2 j k (by simpa using h)
    rwa [show j0 + 1 + j = j0 + (j + 1) by omega] at this

/-- The value at a slot of the data. -/
theorem putS_at : ∀ (l : List (Nat × SV)) (x : denS l) (i t : Nat) (sv : SV), slotsFrom i l = true → i ≤ t → l[t - i]? = some (t, sv) → ∃ y : sv.den, getT (putS l x) t = sv.put y
  | [], _, _, _, _, _, _, h => by simp at h
  | p :: r, x, i, t, sv, hs, hi, h => by
    simp only [slotsFrom, Bool.and_eq_true] at hs
    have e1 := Nat.eq_of_beq_eq_true hs.1
    rcases Nat.eq_or_lt_of_le hi with e | e
    · subst e
      rw [Nat.sub_self] at h
      simp only [List.getElem?_cons_zero, Option.some.injEq] at h
      subst h
      refine ⟨x.1, ?_⟩
      simp only [putS, getT]
      rw [if_pos (Nat.beq_refl _)]
    · rw [show t - i = (t - (i + 1)) + 1 by omega] at h
      obtain ⟨y, hy⟩ := putS_at r x.2 (i + 1) t sv hs.2 (by omega) (by simpa using h)
      refine ⟨y, ?_⟩
      simp only [putS, getT]
      rw [if_neg (fun q => by have := Nat.eq_of_beq_eq_true q; omega)]
      exact hy

theorem reS_rel {w' : World} {ok ok' : Nat → Prop} {ι2 ι'' : Nat → Option Value} {f : Nat → Nat} {fl : Bool} (hok : fl = false → ∀ b, ok b → ok' b) (hι : ∀ b v, ι2 b = some v → ι'' (f b) = some v) :
    ∀ (l : List (Nat × SV)) (x : denS l) (i : Nat) (us : List Value), slotsFrom i l = true → (fl = true → flatS l = true) → us.length = l.length → (∀ t, t < us.length → RelV w' ok ι2 (getT (putS l x) (i + t)) (us.getD t undef)) → RelL w' ok' ι'' (reS f l x) us
  | [], x, i, us, _, _, hl, _ => RelL_nil.2 (List.length_eq_zero_iff.1 hl)
  | p :: r, x, i, us, hs, hf, hl, h => by
    cases us with
    | nil => simp at hl
    | cons u ur =>
      simp only [slotsFrom, Bool.and_eq_true] at hs
      have hp := Nat.eq_of_beq_eq_true hs.1
      have hf' : fl = true → p.2.flat = true ∧ flatS r = true := fun q => by
        have := hf q
        simpa only [flatS, Bool.and_eq_true] using this
      refine RelL_cons.2 ⟨u, ur, rfl, ?_, reS_rel hok hι r x.2 (i + 1) ur hs.2 (fun q => (hf' q).2) (by simpa using hl) fun t ht => ?_⟩
      · have h0 := h 0 (by simp)
        rw [Nat.add_zero] at h0
        simp only [putS, getT] at h0
        rw [if_pos (by rw [hp]; exact Nat.beq_refl i)] at h0
        exact SV.re_rel hok hι p.2 x.1 u (fun q => (hf' q).1) h0
      · have h1 := h (t + 1) (by simpa using ht)
        simp only [putS, getT] at h1
        rw [if_neg (fun q => by have := Nat.eq_of_beq_eq_true q; omega)] at h1
        rw [show i + 1 + t = i + (t + 1) by omega]
        simpa using h1

theorem RelL_drop' {w : World} {ok : Nat → Prop} {ι : Nat → Option Value} : ∀ (k : Nat) {vs : List AV} {us : List Value}, RelL w ok ι vs us → RelL w ok ι (vs.drop k) (us.drop k)
  | k, _, _, h => RelL_drop h k

section
variable {X keep : Nat → Prop} {w0 w : World} {ι : Nat → Option Value} {C : Nat → Blk}

/-- What is taken out of a state, as a state of its own. -/
theorem takeC_sound {sh : Shape} {T : Nat → AV} {V : Nat → Value} {ρ : List Nat} (h : HRel X keep w0 ι C w) (hT : ∀ t, RelV w (okb X w ι C) ι (T t) (V t)) {x1 : denS sh.sl} {f1 : List (Nat × Blk)} (e1 : takeS C T ρ sh.sl = some (x1, f1))
    {x2 : denB sh.bl} {f2 : List (Nat × Blk)} (e2 : takeB C ρ sh.bl ρ = some (x2, f2)) (hmt : meetN ρ (updIds (f1 ++ f2)) = false) :
    HRel X keep w0 ι (updC C (f1 ++ f2)) w ∧ Ext X ι C w ι (updC C (f1 ++ f2)) w ∧ (∀ i ∈ ρ, updC C (f1 ++ f2) i = C i) ∧ sh.bl.length = ρ.length ∧
    (∀ j b, bk (fun j => (ρ[j]?).bind ι) (getB (putB sh.bl x2)) j = some b → ∃ i, ρ[j]? = some i ∧ bk ι (updC C (f1 ++ f2)) i = some b) ∧
    (∀ i b j, ρ[j]? = some i → bk ι (updC C (f1 ++ f2)) i = some b → bk (fun j => (ρ[j]?).bind ι) (getB (putB sh.bl x2)) j = some b) ∧
    ∀ ok' : Nat → Prop, (∀ g, okb X w ι (updC C (f1 ++ f2)) g → ok' g) → (∀ j, RelB w ok' (fun j => (ρ[j]?).bind ι) j (getB (putB sh.bl x2) j)) ∧ ∀ t, RelV w ok' (fun j => (ρ[j]?).bind ι) (getT (putS sh.sl x1) t) (V t) := by
  obtain ⟨a1, a2⟩ := takeS_sound sh.sl _ h (FrozenOf.refl _) hT x1 f1 e1
  obtain ⟨b1, b2, b3⟩ := takeB_sound sh.bl ρ 0 _ a1.1 a1.2.1 (fun k i hk => by rw [Nat.zero_add]; exact hk) x2 f2 e2
  have hF := a1.append b1
  let C1 := updC C (f1 ++ f2)
  have hC1 : C1 = updC (updC C f1) f2 := updC_append _ _ _
  let ι' : Nat → Option Value := fun j => (ρ[j]?).bind ι
  have hι' : Renames ρ ι ι' := fun j i e => by show (ρ[j]?).bind ι = _; rw [e]; rfl
  let C' := getB (putB sh.bl x2)
  have hHR : HRel X keep w0 ι C1 w := hF.1
  have same : ∀ i ∈ ρ, C1 i = C i := fun i hi => updC_other _ _ _ (meetN_false hmt i hi)
  have hat : ∀ j i, ρ[j]? = some i → bk ι' C' j = bk ι C1 i := by
    intro j i hi
    have := (b3 C1 (fun _ => True) ι' same hHR.bl (fun _ _ => trivial) (fun _ _ => trivial) hι' j i hi).2 C' (by rw [Nat.zero_add])
    rw [Nat.zero_add] at this
    exact this
  refine ⟨hHR, hF.2.2, same, b2, fun j b hb => ?_, fun i b j hi hb => (hat j i hi).trans hb, fun ok' hok => ⟨fun j => ?_, ?_⟩⟩
  · cases hi : ρ[j]? with
    | none =>
      have h1 : C' j = .dead := getB_out _ _ (by rw [putB_length, b2]; exact List.getElem?_eq_none_iff.1 hi)
      rw [bk_dead h1] at hb
      cases hb
    | some i =>
      refine ⟨i, rfl, ?_⟩
      rw [← hb]
      exact (hat j i hi).symm
  · cases hi : ρ[j]? with
    | none =>
      have h1 : C' j = .dead := getB_out _ _ (by rw [putB_length, b2]; exact List.getElem?_eq_none_iff.1 hi)
      show RelB w ok' ι' j (C' j)
      rw [h1]
      trivial
    | some i =>
      have := (b3 C1 ok' ι' same hHR.bl (fun g hg => hok g (by show okb X w ι C1 g; rw [hC1]; exact hg)) hok hι' j i hi).1
      rw [Nat.zero_add] at this
      exact this
  · exact a2 ok' ι' (fun g hg => hok g (by show okb X w ι C1 g; rw [hC1]; exact b1.2.2.ok g hg)) hι'
end
end Go.Proofs.Rf
