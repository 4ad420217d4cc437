/- Rf, part u: functions over data: a call's contract. -/
import Derived.Test.YtgkgjgcoalmldaaFt
namespace Go.Proofs.Rf
open Go Go.RowKit

def numT (i : Nat) : List AV → List (Nat × AV)
  | [] => []
  | v :: r => (i, v) :: numT (i + 1) r

mutual
/-- A result's value, where blocks nb.. are the call's new ones. -/
def SV.ret (nb : Nat) : (s : SV) → s.den → AV
  | .d agg t, x => avD agg t x
  | .rs b sz, p => .rs (nb + b) sz p.1 p.2
  | .rz b sz, p => .rs (nb + b) sz 0 p
  | .fn f cs, x => .fn f (SV.retL nb cs x)
  | .rf b, _ => .rf (nb + b)
  | .pt b o, _ => .pt (nb + b) o
  | .ud, _ => .ud
def SV.retL (nb : Nat) : (l : List SV) → SV.denL l → List AV
  | [], _ => []
  | a :: r, x => a.ret nb x.1 :: SV.retL nb r x.2
end

def retS (nb : Nat) : (l : List (Nat × SV)) → denS l → List AV
  | [], _ => []
  | p :: r, x => p.2.ret nb x.1 :: retS nb r x.2

def retV : List AV → AV
  | [v] => v
  | vs => .tp vs

def SB.ret (nb : Nat) : (s : SB) → s.den → Blk
  | .row t e, xs => .row t e xs true
  | .box cs, x => .box (SV.retL nb cs x)
  | .it, _ => .dead

def retB (nb : Nat) : (l : List SB) → denB l → List Blk
  | [], _ => []
  | a :: r, x => a.ret nb x.1 :: retB nb r x.2

/-- Data that lead nowhere. -/
def Ty.flat : Ty → Bool
  | .sl _ => false
  | .pr a b => a.flat && b.flat
  | _ => true

mutual
def SV.flat : SV → Bool
  | .d _ t => t.flat
  | .fn _ cs => SV.flatL cs
  | _ => true
def SV.flatL : List SV → Bool
  | [] => true
  | a :: r => a.flat && SV.flatL r
end

def SB.flat : SB → Bool
  | .row t _ => t.flat
  | .box cs => SV.flatL cs
  | .it => true

def flatS : List (Nat × SV) → Bool
  | [] => true
  | p :: r => p.2.flat && flatS r

def flatB : List SB → Bool
  | [] => true
  | a :: r => a.flat && flatB r

def Shape.flat (sh : Shape) : Bool := flatS sh.sl && flatB sh.bl

/-- A call, over data. -/
def mkCall (ps : List SV) (rsh : Shape) (F : SV.denL ps → Option rsh.den) : CallO := fun args C nb _ K =>
  match SV.takeL C [] ps args with
  | some (x, f) => (F x).bind fun y => K ⟨retV (retS nb rsh.sl y.1), if rsh.flat = true then [] else f, retB nb rsh.bl y.2⟩
  | none => none

section
variable (TT : Tab)
def retOf (s : St) : ResultVar → Option AV
  | .tmp t => some (getT s.tm t)
  | .cell a tt => match getT s.tm a with
    | .pt b o => match getB s.bl b with
      | .box cs => loadC TT tt (cs.drop o)
      | _ => none
    | _ => none

def retsOf (s : St) : List ResultVar → Option (List AV)
  | [] => some []
  | r :: rs => match retOf TT s r with
    | some v => match retsOf s rs with
      | some vs => some (v :: vs)
      | none => none
    | none => none

/-- A function's body, over data. -/
noncomputable def runF (Δ : Nat → Option CallO) (n : Nat → Bool) (Λ : Nat → Option LoopO) (c : Code) (rvs : List ResultVar) (ps : List SV) (rsh : Shape) (x : SV.denL ps) : Option rsh.den :=
  evC TT Δ n Λ c ⟨numT 0 (SV.putL ps x), []⟩ fun e s => match e with
    | .ex _ => none
    | .nm => (match retsOf TT s rvs with
      | some vs => rsh.take ⟨numT 0 vs, s.bl⟩
      | none => none)
    | .rt => (match retsOf TT s rvs with
      | some vs => rsh.take ⟨numT 0 vs, s.bl⟩
      | none => none)
end

section
variable {X keep : Nat → Prop} {w0 w : World} {ι : Nat → Option Value} {C : Nat → Blk} {P : Program} {TT : Tab} {Δ : Nat → Option CallO} {n : Slots}

theorem getT_numT {ok : Nat → Prop} : ∀ (vs : List AV) (us : List Value) (i t : Nat), RelL w ok ι vs us → RelV w ok ι (getT (numT i vs) (i + t)) (us.getD t undef) ∧ ∀ j, j < i → getT (numT i vs) j = .un
  | [], us, i, t, h => ⟨by simp only [numT, getT, RelV], fun _ _ => rfl⟩
  | v :: r, us, i, t, h => by
    obtain ⟨u, ur, e, h1, h2⟩ := RelL_cons.1 h
    subst e
    constructor
    · simp only [numT, getT]
      cases t with
      | zero =>
        rw [if_pos (by rw [Nat.add_zero]; exact Nat.beq_refl i)]
        exact h1
      | succ t =>
        rw [if_neg (fun q => by have := Nat.eq_of_beq_eq_true q; omega)]
        have := (getT_numT r ur (i + 1) t h2).1
        rw [show i + 1 + t = i + (t + 1) by omega] at this
        simpa using this
    · intro j hj
      simp only [numT, getT]
      rw [if_neg (fun q => by have := Nat.eq_of_beq_eq_true q; omega)]
      exact (getT_numT r ur (i + 1) t h2).2 j (by omega)

theorem retOf_sound (hP : TabOK P TT) {s : St} {a : Act} (h : SRel X keep w0 n ι s a w) {rv : ResultVar} {v : AV} (hr : retOf TT s rv = some v) :
    ∃ u, ((match rv with
      | .tmp t => pure (a.tmps.getD t undef)
      | .cell b t => do loadVar t (← asAddr (a.tmps.getD b undef))) : Sem Value).run P w = .ok u w ∧ RelV w (okb X w ι (getB s.bl)) ι v u := by
  cases rv with
  | tmp t =>
    simp only [retOf] at hr
    injection hr with hr
    subst hr
    exact ⟨a.tmps.getD t undef, rfl, h.f.tm t⟩
  | cell b tt =>
    simp only [retOf] at hr
    split at hr
    · rename_i k o hk
      split at hr
      · rename_i cs hcs
        have h1 := h.f.tm b
        rw [hk] at h1
        simp only [RelV] at h1
        obtain ⟨g, g1, g2⟩ := h1
        have hb := h.f.h.bl k
        rw [hcs] at hb
        obtain ⟨g', e, us, k1, k2, k3⟩ := hb
        rw [g1] at k1
        injection k1 with k1
        injection k1 with k1
        injection k1 with k1
        injection k1 with k1 _
        subst k1
        obtain ⟨u, r1, r2⟩ := load_sound (w := w) (P := P) hP (g := g) (o := o) (us := us.drop o) (fun j u hu => by
          rw [List.getElem?_drop] at hu
          simp only [World.cell?, k2]
          simpa using hu) (RelL_drop k3 o) hr
        refine ⟨u, ?_, r2⟩
        show ((do loadVar tt (← asAddr (a.tmps.getD b undef))) : Sem Value).run P w = _
        rw [g2]
        simp [asAddr, r1]
      · cases hr
    · cases hr

theorem retsOf_sound (hP : TabOK P TT) {s : St} {a : Act} (h : SRel X keep w0 n ι s a w) : ∀ {rvs : List ResultVar} {vs : List AV}, retsOf TT s rvs = some vs →
    ∃ us, (rvs.mapM (fun rv => ((match rv with
      | .tmp t => pure (a.tmps.getD t undef)
      | .cell b t => do loadVar t (← asAddr (a.tmps.getD b undef))) : Sem Value)) : Sem (List Value)).run P w = .ok us w ∧ RelL w (okb X w ι (getB s.bl)) ι vs us
  | [], vs, hr => by
    simp only [retsOf] at hr
    injection hr with hr
    subst hr
    exact ⟨[], rfl, RelL_nil.2 rfl⟩
  | rv :: rvs, vs, hr => by
    simp only [retsOf] at hr
    split at hr
    · rename_i v hv
      split at hr
      · rename_i vr hvr
        injection hr with hr
        subst hr
        obtain ⟨u, r1, r2⟩ := retOf_sound hP h hv
        obtain ⟨ur, s1, s2⟩ := retsOf_sound hP h hvr
        refine ⟨u :: ur, ?_, RelL_cons.2 ⟨u, ur, rfl, r2, s2⟩⟩
        rw [List.mapM_cons]
        simp only [Sem.run_bind, r1, s1, Result.andThen_ok]
        rfl
      · cases hr
    · cases hr

theorem results_sound (hP : TabOK P TT) {s : St} {a : Act} (h : SRel X keep w0 n ι s a w) {fn : Func} {vs : List AV} (hr : retsOf TT s fn.results.toList = some vs) :
    ∃ us v, (results fn a.tmps).run P w = .ok v w ∧ RelL w (okb X w ι (getB s.bl)) ι vs us ∧ v = (if h : us.toArray.size = 1 then us.toArray[0] else .tuple us.toArray) := by
  obtain ⟨us, h1, h2⟩ := retsOf_sound hP h hr
  refine ⟨us, _, ?_, h2, rfl⟩
  unfold results
  rw [← Array.toArray_toList (xs := fn.results)]
  rw [List.mapM_toArray]
  simp only [Sem.run_bind, Sem.run_map]
  generalize hq : Sem.run P (List.mapM _ fn.results.toList) w = q
  have hq' : q = .ok us w := hq.symm.trans h1
  subst hq'
  rfl

theorem Rz_flat {w w' : World} {ok ok' : Nat → Prop} : ∀ (t : Ty) (x : t.den) (us : List Value), t.flat = true → Rz w ok t x us → Rz w' ok' t x us
  | .int _, _, _, _, h => h
  | .bool, _, _, _, h => h
  | .str, _, _, _, h => h
  | .sl _, _, _, hf, _ => by cases hf
  | .pr a b, _, _, hf, ⟨us, vr, e, h1, h2⟩ => by
    simp only [Ty.flat, Bool.and_eq_true] at hf
    exact ⟨us, vr, e, Rz_flat a _ _ hf.1 h1, Rz_flat b _ _ hf.2 h2⟩
  | .un, _, _, _, h => h
  | .fk _, _, _, _, h => h

theorem RelL_flat {w w' : World} {ok ok' : Nat → Prop} {ι ι' : Nat → Option Value} : ∀ (t : Ty) (x : t.den) (us : List Value), t.flat = true → RelL w ok ι (unpack t x) us → RelL w' ok' ι' (unpack t x) us
  | .int k, x, us, _, h => by
    obtain ⟨v, vr, e, h1, h2⟩ := RelL_cons.1 h
    exact RelL_cons.2 ⟨v, vr, e, (by simp only [RelV] at h1 ⊢; exact h1), RelL_nil.2 (RelL_nil.1 h2)⟩
  | .bool, x, us, _, h => by
    obtain ⟨v, vr, e, h1, h2⟩ := RelL_cons.1 h
    exact RelL_cons.2 ⟨v, vr, e, (by simp only [RelV] at h1 ⊢; exact h1), RelL_nil.2 (RelL_nil.1 h2)⟩
  | .str, x, us, _, h => by
    obtain ⟨v, vr, e, h1, h2⟩ := RelL_cons.1 h
    exact RelL_cons.2 ⟨v, vr, e, (by simp only [RelV] at h1 ⊢; exact h1), RelL_nil.2 (RelL_nil.1 h2)⟩
  | .sl t, x, us, hf, h => by cases hf
  | .pr a b, x, us, hf, h => by
    simp only [Ty.flat, Bool.and_eq_true] at hf
    obtain ⟨u1, u2, e, h1, h2⟩ := RelL_split h
    rw [e]
    exact RelL_append (RelL_flat a _ _ hf.1 h1) (RelL_flat b _ _ hf.2 h2)
  | .un, x, us, _, h => RelL_nil.2 (RelL_nil.1 h)
  | .fk f, x, us, _, h => by
    obtain ⟨v, vr, e, h1, h2⟩ := RelL_cons.1 h
    refine RelL_cons.2 ⟨v, vr, e, ?_, RelL_nil.2 (RelL_nil.1 h2)⟩
    simp only [RelV] at h1 ⊢
    obtain ⟨us, e, h3⟩ := h1
    exact ⟨us, e, RelL_nil.2 (RelL_nil.1 h3)⟩

theorem avD_flat {w w' : World} {ok ok' : Nat → Prop} {ι ι' : Nat → Option Value} {agg : Bool} {t : Ty} {x : t.den} {u : Value} (hf : t.flat = true) (h : RelV w ok ι (avD agg t x) u) : RelV w' ok' ι' (avD agg t x) u := by
  unfold avD at h ⊢
  split at h
  · rename_i ha
    simp only [ha, if_true]
    simp only [RelV] at h ⊢
    obtain ⟨us, e, h1⟩ := h
    exact ⟨us, e, RelL_flat t x us hf h1⟩
  · rename_i ha
    rw [if_neg ha]
    split at h
    · rename_i v hv
      have h1 : RelL w ok ι (unpack t x) [u] := by rw [hv]; exact RelL_cons.2 ⟨u, [], rfl, h, RelL_nil.2 rfl⟩
      have h2 := RelL_flat (w' := w') (ok' := ok') (ι' := ι') t x _ hf h1
      rw [hv] at h2
      obtain ⟨v', vr, e, h3, _⟩ := RelL_cons.1 h2
      injection e with e _
      subst e
      exact h3
    · simp only [RelV]

theorem RelL_mv {w : World} {ok ok' : Nat → Prop} {ι ι' : Nat → Option Value} (hok : ∀ b, ok b → ok' b) : ∀ (t : Ty) (x : t.den) (us : List Value), RelL w ok ι (unpack t x) us → RelL w ok' ι' (unpack t x) us
  | .int k, x, us, h => by
    obtain ⟨v, vr, e, h1, h2⟩ := RelL_cons.1 h
    exact RelL_cons.2 ⟨v, vr, e, (by simp only [RelV] at h1 ⊢; exact h1), RelL_nil.2 (RelL_nil.1 h2)⟩
  | .bool, x, us, h => by
    obtain ⟨v, vr, e, h1, h2⟩ := RelL_cons.1 h
    exact RelL_cons.2 ⟨v, vr, e, (by simp only [RelV] at h1 ⊢; exact h1), RelL_nil.2 (RelL_nil.1 h2)⟩
  | .str, x, us, h => by
    obtain ⟨v, vr, e, h1, h2⟩ := RelL_cons.1 h
    exact RelL_cons.2 ⟨v, vr, e, (by simp only [RelV] at h1 ⊢; exact h1), RelL_nil.2 (RelL_nil.1 h2)⟩
  | .sl t, x, us, h => by
    obtain ⟨v, vr, e, h1, h2⟩ := RelL_cons.1 h
    refine RelL_cons.2 ⟨v, vr, e, ?_, RelL_nil.2 (RelL_nil.1 h2)⟩
    simp only [RelV] at h1 ⊢
    exact Rz_mono (fun _ _ _ _ e => e) hok _ _ _ h1
  | .pr a b, x, us, h => by
    obtain ⟨u1, u2, e, h1, h2⟩ := RelL_split h
    rw [e]
    exact RelL_append (RelL_mv hok a _ _ h1) (RelL_mv hok b _ _ h2)
  | .un, x, us, h => RelL_nil.2 (RelL_nil.1 h)
  | .fk f, x, us, h => by
    obtain ⟨v, vr, e, h1, h2⟩ := RelL_cons.1 h
    refine RelL_cons.2 ⟨v, vr, e, ?_, RelL_nil.2 (RelL_nil.1 h2)⟩
    simp only [RelV] at h1 ⊢
    obtain ⟨us, e, h3⟩ := h1
    exact ⟨us, e, RelL_nil.2 (RelL_nil.1 h3)⟩

theorem putL_length : ∀ (l : List SV) (x : SV.denL l), (SV.putL l x).length = l.length
  | [], _ => rfl
  | _ :: r, x => by simp [SV.putL, putL_length r x.2]

section
variable {w' : World} {ok ok' : Nat → Prop} {ι2 ι'' : Nat → Option Value} {nb : Nat} {fl : Bool}

theorem avD_mv (hok : fl = false → ∀ b, ok b → ok' b) {agg : Bool} {ty : Ty} {x : ty.den} {u : Value} (hf : fl = true → ty.flat = true) (h0 : RelV w' ok ι2 (avD agg ty x) u) : RelV w' ok' ι'' (avD agg ty x) u := by
  cases fl with
  | true => exact avD_flat (hf rfl) h0
  | false =>
    unfold avD at h0 ⊢
    split at h0
    · rename_i ha
      simp only [ha, if_true]
      simp only [RelV] at h0 ⊢
      obtain ⟨us, e, h1⟩ := h0
      exact ⟨us, e, RelL_mv (hok rfl) ty x us h1⟩
    · rename_i ha
      rw [if_neg ha]
      split at h0
      · rename_i v hv
        have h1 : RelL w' ok ι2 (unpack ty x) [u] := by rw [hv]; exact RelL_cons.2 ⟨u, [], rfl, h0, RelL_nil.2 rfl⟩
        have h2 := RelL_mv (ι' := ι'') (hok rfl) ty x _ h1
        rw [hv] at h2
        obtain ⟨v', vr, e, h3, _⟩ := RelL_cons.1 h2
        injection e with e _
        subst e
        exact h3
      · simp only [RelV]

mutual
theorem SV.ret_rel (hok : fl = false → ∀ b, ok b → ok' b) (hι : ∀ b v, ι2 b = some v → ι'' (nb + b) = some v) : ∀ (sv : SV) (x : sv.den) (u : Value), (fl = true → sv.flat = true) → RelV w' ok ι2 (sv.put x) u → RelV w' ok' ι'' (sv.ret nb x) u
  | .d agg t, x, u, hf, h => avD_mv hok hf h
  | .rs b sz, p, u, _, h => by
    simp only [SV.put, SV.ret, RelV] at h ⊢
    obtain ⟨A, n, c, A', c', h1, h2⟩ := h
    exact ⟨A, n, c, A', c', hι _ _ h1, h2⟩
  | .rz b sz, p, u, _, h => by
    simp only [SV.put, SV.ret, RelV] at h ⊢
    obtain ⟨A, n, c, A', c', h1, h2⟩ := h
    exact ⟨A, n, c, A', c', hι _ _ h1, h2⟩
  | .fn f cs, x, u, hf, h => by
    simp only [SV.put, SV.ret, RelV] at h ⊢
    obtain ⟨us, e, h1⟩ := h
    exact ⟨us, e, SV.retL_rel hok hι cs x us hf h1⟩
  | .rf b, x, u, _, h => by
    simp only [SV.put, SV.ret, RelV] at h ⊢
    exact ⟨hι _ _ h.1, h.2⟩
  | .pt b o, x, u, _, h => by
    simp only [SV.put, SV.ret, RelV] at h ⊢
    obtain ⟨g, h1, h2⟩ := h
    exact ⟨g, hι _ _ h1, h2⟩
  | .ud, x, u, _, h => by
    simp only [SV.put, SV.ret, RelV] at h ⊢
    exact h
theorem SV.retL_rel (hok : fl = false → ∀ b, ok b → ok' b) (hι : ∀ b v, ι2 b = some v → ι'' (nb + b) = some v) : ∀ (l : List SV) (x : SV.denL l) (us : List Value), (fl = true → SV.flatL l = true) → RelL w' ok ι2 (SV.putL l x) us → RelL w' ok' ι'' (SV.retL nb l x) us
  | [], x, us, _, h => by simpa only [SV.putL, SV.retL, RelL] using h
  | a :: r, x, us, hf, h => by
    simp only [SV.putL, SV.retL, RelL] at h ⊢
    obtain ⟨v, vr, e, h1, h2⟩ := h
    have hf' : fl = true → a.flat = true ∧ SV.flatL r = true := fun q => by
      have := hf q
      simpa only [SV.flatL, Bool.and_eq_true] using this
    exact ⟨v, vr, e, SV.ret_rel hok hι a x.1 v (fun q => (hf' q).1) h1, SV.retL_rel hok hι r x.2 vr (fun q => (hf' q).2) h2⟩
end

theorem SB.ret_rel (hok : fl = false → ∀ b, ok b → ok' b) (hι : ∀ b v, ι2 b = some v → ι'' (nb + b) = some v) {j : Nat} : ∀ (sb : SB) (x : sb.den), (fl = true → sb.flat = true) → RelB w' ok ι2 j (sb.put x) → RelB w' ok' ι'' (nb + j) (sb.ret nb x)
  | .row t e, xs, hf, h => by
    obtain ⟨v, cs, h1, h2, h3⟩ := h
    refine ⟨v, cs, hι _ _ h1, h2, RzL_mono (fun x us hx => ?_) h3⟩
    cases hfl : fl with
    | true => exact Rz_flat t x us (hf hfl) hx
    | false => exact Rz_mono (fun _ _ _ _ e => e) (hok hfl) t x us hx
  | .box cs, x, hf, h => by
    obtain ⟨g, e, us, h1, h2, h3⟩ := h
    exact ⟨g, e, us, hι _ _ h1, h2, SV.retL_rel hok hι cs x us hf h3⟩
  | .it, _, _, _ => trivial
end

theorem retB_length (nb : Nat) : ∀ (l : List SB) (x : denB l), (retB nb l x).length = l.length
  | [], _ => rfl
  | _ :: r, x => by simp [retB, retB_length nb r x.2]

theorem retB_get (nb : Nat) : ∀ (l : List SB) (x : denB l) (j : Nat), getB (retB nb l x) j = .dead ∨ ∃ sb, l[j]? = some sb ∧ ∃ y : sb.den, getB (retB nb l x) j = sb.ret nb y ∧ getB (putB l x) j = sb.put y
  | [], _, _ => .inl rfl
  | a :: r, x, 0 => .inr ⟨a, rfl, x.1, rfl, rfl⟩
  | a :: r, x, j + 1 => by
    rcases retB_get nb r x.2 j with h | ⟨sb, h1, y, h2, h3⟩
    · exact .inl h
    · exact .inr ⟨sb, by simpa using h1, y, h2, h3⟩

theorem flatB_get : ∀ {l : List SB} {j : Nat} {sb : SB}, flatB l = true → l[j]? = some sb → sb.flat = true
  | [], j, _, _, h => by simp at h
  | a :: r, 0, sb, hf, h => by
    simp only [List.getElem?_cons_zero, Option.some.injEq] at h
    subst h
    simp only [flatB, Bool.and_eq_true] at hf
    exact hf.1
  | a :: r, j + 1, sb, hf, h => by
    simp only [flatB, Bool.and_eq_true] at hf
    exact flatB_get (l := r) (j := j) hf.2 (by simpa using h)

theorem SB.ret_bk {ι2 ι'' : Nat → Option Value} {C2 C'' : Nat → Blk} {nb j k : Nat} {b : Nat} : ∀ (sb : SB) (y : sb.den), C'' k = sb.ret nb y → C2 j = sb.put y → ι'' k = ι2 j → bk ι'' C'' k = some b → bk ι2 C2 j = some b
  | .row t e, xs, h1, h2, h3, h => by
    unfold bk at h ⊢
    rw [h1, h3] at h
    rw [h2]
    exact h
  | .box cs, x, h1, h2, h3, h => by
    unfold bk at h ⊢
    rw [h1, h3] at h
    rw [h2]
    simp only [SB.ret, SB.put] at h ⊢
    cases hι : ι2 j with
    | none => rw [hι] at h; cases h
    | some v =>
      rw [hι] at h
      cases v <;> (try (cases h; done))
      rename_i p
      cases p with
      | none => cases h
      | some a => exact h
  | .it, _, h1, _, _, h => by
    rw [bk_dead h1] at h
    cases h

theorem addC_at : ∀ (new : List Blk) (C : Nat → Blk) (nb j : Nat), j < new.length → addC C nb new (nb + j) = getB new j
  | [], _, _, j, h => by simp at h
  | b :: r, C, nb, 0, _ => by
    show addC (setC C nb b) (nb + 1) r (nb + 0) = b
    rw [addC_other _ _ _ _ (by omega), Nat.add_zero, setC_self]
  | b :: r, C, nb, j + 1, h => by
    show addC (setC C nb b) (nb + 1) r (nb + (j + 1)) = getB r j
    rw [show nb + (j + 1) = nb + 1 + j by omega]
    exact addC_at r _ (nb + 1) j (by simpa using h)

def slotsFrom : Nat → List (Nat × SV) → Bool
  | _, [] => true
  | i, p :: r => Nat.beq p.1 i && slotsFrom (i + 1) r

theorem retS_rel {w' : World} {ok ok' : Nat → Prop} {ι2 ι'' : Nat → Option Value} {nb : Nat} {fl : Bool} (hok : fl = false → ∀ b, ok b → ok' b) (hι : ∀ b v, ι2 b = some v → ι'' (nb + b) = some v) :
    ∀ (l : List (Nat × SV)) (x : denS l) (i : Nat) (us : List Value), slotsFrom i l = true → (fl = true → flatS l = true) → us.length = l.length → (∀ t, t < us.length → RelV w' ok ι2 (getT (putS l x) (i + t)) (us.getD t undef)) → RelL w' ok' ι'' (retS nb l x) us
  | [], x, i, us, _, _, hl, _ => RelL_nil.2 (List.length_eq_zero_iff.1 hl)
  | p :: r, x, i, us, hs, hf, hl, h => by
    cases us with
    | nil => simp at hl
    | cons u ur =>
      simp only [slotsFrom, Bool.and_eq_true] at hs
      have hp := Nat.eq_of_beq_eq_true hs.1
      have hf' : fl = true → p.2.flat = true ∧ flatS r = true := fun q => by
        have := hf q
        simpa only [flatS, Bool.and_eq_true] using this
      refine RelL_cons.2 ⟨u, ur, rfl, ?_, retS_rel hok hι r x.2 (i + 1) ur hs.2 (fun q => (hf' q).2) (by simpa using hl) fun t ht => ?_⟩
      · have h0 := h 0 (by simp)
        rw [Nat.add_zero] at h0
        simp only [putS, getT] at h0
        rw [if_pos (by rw [hp]; exact Nat.beq_refl i)] at h0
        exact SV.ret_rel hok hι p.2 x.1 u (fun q => (hf' q).1) h0
      · have h1 := h (t + 1) (by simpa using ht)
        simp only [putS, getT] at h1
        rw [if_neg (fun q => by have := Nat.eq_of_beq_eq_true q; omega)] at h1
        rw [show i + 1 + t = i + (t + 1) by omega]
        simpa using h1
end
end Go.Proofs.Rf
