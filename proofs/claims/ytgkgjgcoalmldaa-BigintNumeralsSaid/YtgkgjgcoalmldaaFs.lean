/- Rf, part s: shapes of states: a state's data, and the state that data stand for. -/
import Derived.Test.YtgkgjgcoalmldaaFr
namespace Go.Proofs.Rf
open Go Go.RowKit

inductive SV where
  | d (agg : Bool) (t : Ty)
  | rf (b : Nat)
  | rs (b sz : Nat)
  | rz (b sz : Nat)
  | pt (b o : Nat)
  | ud
  | fn (f : Nat) (cs : List SV)

inductive SB where
  | row (t : Ty) (e : Nat)
  | box (cs : List SV)
  | it

mutual
@[reducible] def SV.den : SV → Type
  | .d _ t => t.den
  | .rs _ _ => Nat × Nat
  | .rz _ _ => Nat
  | .fn _ cs => SV.denL cs
  | .rf _ => Unit
  | .pt _ _ => Unit
  | .ud => Unit
@[reducible] def SV.denL : List SV → Type
  | [] => Unit
  | a :: r => a.den × SV.denL r
end

@[reducible] def SB.den : SB → Type
  | .row t _ => List t.den
  | .box cs => SV.denL cs
  | .it => List UInt8 × Nat

@[reducible] def denB : List SB → Type
  | [] => Unit
  | a :: r => a.den × denB r

@[reducible] def denS : List (Nat × SV) → Type
  | [] => Unit
  | p :: r => p.2.den × denS r

structure Shape where
  sl : List (Nat × SV)
  bl : List SB

@[reducible] def Shape.den (sh : Shape) : Type := denS sh.sl × denB sh.bl

def avD (agg : Bool) (t : Ty) (x : t.den) : AV :=
  if agg = true then .ag (unpack t x) else match unpack t x with
    | [v] => v
    | _ => .un

mutual
def SV.put : (s : SV) → s.den → AV
  | .d agg t, x => avD agg t x
  | .rs b sz, p => .rs b sz p.1 p.2
  | .rz b sz, p => .rs b sz 0 p
  | .fn f cs, x => .fn f (SV.putL cs x)
  | .rf b, _ => .rf b
  | .pt b o, _ => .pt b o
  | .ud, _ => .ud
def SV.putL : (l : List SV) → SV.denL l → List AV
  | [], _ => []
  | a :: r, x => a.put x.1 :: SV.putL r x.2
end

def SB.put : (s : SB) → s.den → Blk
  | .row t e, xs => .row t e xs true
  | .box cs, x => .box (SV.putL cs x)
  | .it, p => .it p.1 p.2

def putB : (l : List SB) → denB l → List Blk
  | [], _ => []
  | a :: r, x => a.put x.1 :: putB r x.2

def putS : (l : List (Nat × SV)) → denS l → List (Nat × AV)
  | [], _ => []
  | p :: r, x => (p.1, p.2.put x.1) :: putS r x.2

/-- The state that data stand for. -/
def Shape.put (sh : Shape) (x : sh.den) : St := ⟨putS sh.sl x.1, putB sh.bl x.2⟩

def AV.isAg : AV → Bool
  | .ag _ => true
  | _ => false

def eqB : Bool → Bool → Bool
  | true, true | false, false => true
  | _, _ => false

theorem eqB_iff : ∀ {a b : Bool}, eqB a b = true → a = b := by decide

def atN (ρ : List Nat) (b i : Nat) : Bool := match ρ[b]? with
  | some j => Nat.beq j i
  | none => false

theorem atN_iff {ρ : List Nat} {b i : Nat} (h : atN ρ b i = true) : ρ[b]? = some i := by
  unfold atN at h
  split at h
  · rename_i j hj
    rw [hj, Nat.eq_of_beq_eq_true h]
  · cases h

mutual
def SV.take (C : Nat → Blk) (ρ : List Nat) : (s : SV) → AV → Option (s.den × List (Nat × Blk))
  | .d agg t, v => if eqB v.isAg agg = true then dat C t v else none
  | .rf b, .rf i => if atN ρ b i = true then some ((), []) else none
  | .rs b sz, .rs i sz' off len => if (atN ρ b i && Nat.beq sz' sz) = true then some ((off, len), []) else none
  | .rz b sz, .rs i sz' off len => if (atN ρ b i && Nat.beq sz' sz && Nat.beq off 0) = true then some (len, []) else none
  | .pt b o, .pt i o' => if (atN ρ b i && Nat.beq o' o) = true then some ((), []) else none
  | .ud, .ud => some ((), [])
  | .fn f cs, .fn g vs => if Nat.beq g f = true then SV.takeL C ρ cs vs else none
  | _, _ => none
def SV.takeL (C : Nat → Blk) (ρ : List Nat) : (l : List SV) → List AV → Option (SV.denL l × List (Nat × Blk))
  | [], [] => some ((), [])
  | a :: r, v :: vs => match a.take C ρ v with
    | some (x, f) => match SV.takeL C ρ r vs with
      | some (y, g) => some ((x, y), f ++ g)
      | none => none
    | none => none
  | _, _ => none
end

def oneMore (ρ : List Nat) (b i : Nat) : List Nat := if Nat.beq b ρ.length = true then ρ ++ [i] else ρ

mutual
def SV.blks : List Nat → SV → AV → List Nat
  | ρ, .rf b, .rf i => oneMore ρ b i
  | ρ, .rs b _, .rs i _ _ _ => oneMore ρ b i
  | ρ, .rz b _, .rs i _ _ _ => oneMore ρ b i
  | ρ, .pt b _, .pt i _ => oneMore ρ b i
  | ρ, .fn _ cs, .fn _ vs => SV.blksL ρ cs vs
  | ρ, _, _ => ρ
def SV.blksL : List Nat → List SV → List AV → List Nat
  | ρ, a :: r, v :: vs => SV.blksL (SV.blks ρ a v) r vs
  | ρ, _, _ => ρ
end

def blkS (T : Nat → AV) : List (Nat × SV) → List Nat → List Nat
  | [], ρ => ρ
  | p :: r, ρ => blkS T r (SV.blks ρ p.2 (T p.1))

def blkB (C : Nat → Blk) : List SB → Nat → List Nat → List Nat
  | [], _, ρ => ρ
  | .box cs :: r, j, ρ => match ρ[j]? with
    | some i => match C i with
      | .box vs => blkB C r (j + 1) (SV.blksL ρ cs vs)
      | _ => blkB C r (j + 1) ρ
    | none => blkB C r (j + 1) ρ
  | _ :: r, j, ρ => blkB C r (j + 1) ρ

def takeS (C : Nat → Blk) (T : Nat → AV) (ρ : List Nat) : (l : List (Nat × SV)) → Option (denS l × List (Nat × Blk))
  | [] => some ((), [])
  | p :: r => match p.2.take C ρ (T p.1) with
    | some (x, f) => match takeS C T ρ r with
      | some (y, g) => some ((x, y), f ++ g)
      | none => none
    | none => none

def SB.take (C : Nat → Blk) (ρ : List Nat) : (s : SB) → Blk → Option (s.den × List (Nat × Blk))
  | .row t e, .row t' e' xs true => match t'.eqv t with
    | some h => if Nat.beq e' e = true then some (Ty.castL h.down xs, []) else none
    | none => none
  | .box cs, .box vs => SV.takeL C ρ cs vs
  | .it, .it s p => some ((s, p), [])
  | _, _ => none

def takeB (C : Nat → Blk) (ρ : List Nat) : (l : List SB) → List Nat → Option (denB l × List (Nat × Blk))
  | [], [] => some ((), [])
  | a :: r, i :: is => match a.take C ρ (C i) with
    | some (x, f) => match takeB C ρ r is with
      | some (y, g) => some ((x, y), f ++ g)
      | none => none
    | none => none
  | _, _ => none

def nodupN : List Nat → Bool
  | [] => true
  | k :: r => !(memN k r) && nodupN r

theorem nodupN_iff : ∀ {l : List Nat}, nodupN l = true → l.Nodup
  | [], _ => List.nodup_nil
  | k :: r, h => by
    simp only [nodupN, Bool.and_eq_true, Bool.not_eq_true'] at h
    exact List.nodup_cons.2 ⟨fun hm => (by rw [memN_iff.2 hm] at h; cases h.1), nodupN_iff h.2⟩

/-- A slice that is nil where a row of the call's own is wanted; the first elements of such a row, where no more of it is wanted. -/
def nlfix1 (bl : List SB) (p : Nat × SV) (s : St) : St := match p.2 with
  | .rf b => match getT s.tm p.1, bl[b]? with
    | .nl, some (.row ty e) => ⟨(p.1, .rf s.bl.length) :: s.tm, s.bl ++ [.row ty e [] true]⟩
    | .rs i sz off len, some (.row _ _) => (match getB s.bl i with
      | .row ty' e' xs true => if (Nat.beq off 0 && Nat.beq sz ty'.size && Nat.blt i s.bl.length) = true then ⟨(p.1, .rf s.bl.length) :: s.tm, setB s.bl i .dead ++ [.row ty' e' (xs.take len) true]⟩ else s
      | _ => s)
    | _, _ => s
  | _ => s

def nlfix (bl : List SB) : List (Nat × SV) → St → St
  | [], s => s
  | p :: r, s => nlfix bl r (nlfix1 bl p s)

def rsOf : AV → List Nat
  | .rs i _ _ _ => [i]
  | _ => []

/-- The rows that are cut so. -/
def nlsrc (bl : List SB) : List (Nat × SV) → St → List Nat
  | [], _ => []
  | p :: r, s => rsOf (getT s.tm p.1) ++ nlsrc bl r (nlfix1 bl p s)

def Shape.ids (sh : Shape) (s : St) : List Nat := blkB (getB s.bl) sh.bl 0 (blkS (getT s.tm) sh.sl [])

def Shape.take1 (sh : Shape) (s : St) (ρ : List Nat) : Option sh.den :=
  if nodupN ρ = true then match takeS (getB s.bl) (getT s.tm) ρ sh.sl with
    | some (x, f) => match takeB (getB s.bl) ρ sh.bl ρ with
      | some (y, g) => if meetN ρ (updIds (f ++ g)) = true then none else some (x, y)
      | none => none
    | none => none
  else none

/-- A box's cell that is nil where a row of the call's own is wanted. -/
def nlcell1 (bl : List SB) (i k : Nat) (sv : SV) (s : St) : St := match sv with
  | .rf b => match bl[b]? with
    | some (.row ty e) => (match getB s.bl i with
      | .box vs => (match vs[k]? with
        | some .nl => if Nat.blt i s.bl.length = true then ⟨s.tm, setB s.bl i (.box (vs.set k (.rf s.bl.length))) ++ [.row ty e [] true]⟩ else s
        | _ => s)
      | _ => s)
    | _ => s
  | _ => s

def nlcells (bl : List SB) (i : Nat) : Nat → List SV → St → St
  | _, [], s => s
  | k, sv :: r, s => nlcells bl i (k + 1) r (nlcell1 bl i k sv s)

def Shape.nlboxes (sh : Shape) : Nat → List SB → St → St
  | _, [], s => s
  | j, .box cs :: r, s => match (sh.ids s)[j]? with
    | some i => Shape.nlboxes sh (j + 1) r (nlcells sh.bl i 0 cs s)
    | none => Shape.nlboxes sh (j + 1) r s
  | j, .row _ _ :: r, s => Shape.nlboxes sh (j + 1) r s
  | j, .it :: r, s => Shape.nlboxes sh (j + 1) r s

def Shape.fixd (sh : Shape) (s : St) : St := sh.nlboxes 0 sh.bl (nlfix sh.bl sh.sl s)

/-- A state's data. -/
def Shape.take (sh : Shape) (s : St) : Option sh.den := sh.take1 (sh.fixd s) (sh.ids (sh.fixd s))

section
variable {X keep : Nat → Prop} {w0 w : World} {ι ι' : Nat → Option Value} {C C0 : Nat → Blk}

theorem cells_one {ok : Nat → Prop} {a : AV} {v : Value} (h : RelV w ok ι a v) (hun : a ≠ .un) (hud : a ≠ .ud) (hag : a.isAg = false) : v.cells.toList = [v] := by
  cases a with
  | ag cs => cases hag
  | un => exact absurd rfl hun
  | ud => exact absurd rfl hud
  | d t x =>
    simp only [RelV] at h
    have := Rz_one t x _ h v (by simp)
    cases v <;> first | rfl | (simp [Value.oneCell'] at this)
  | nl => simp only [RelV] at h; subst h; rfl
  | ub => simp only [RelV] at h; obtain ⟨b, e⟩ := h; subst e; rfl
  | np => simp only [RelV] at h; subst h; rfl
  | rf b => simp only [RelV] at h; obtain ⟨_, A, n, c, e⟩ := h; subst e; rfl
  | rs b sz off len => simp only [RelV] at h; obtain ⟨A, n, c, A', c', _, _, e, _⟩ := h; subst e; rfl
  | pt b o => simp only [RelV] at h; obtain ⟨g, _, e⟩ := h; subst e; rfl
  | pe b sz i o => simp only [RelV] at h; obtain ⟨g, n, c, _, _, e⟩ := h; subst e; rfl
  | ve cs => simp only [RelV] at h; obtain ⟨g, o, us, e, _⟩ := h; subst e; rfl
  | tp cs => simp only [RelV] at h; obtain ⟨us, e, _⟩ := h; subst e; rfl
  | fn f cs => simp only [RelV] at h; obtain ⟨us, e, _⟩ := h; subst e; rfl
  | fm f cs => simp only [RelV] at h; obtain ⟨us, e, _⟩ := h; subst e; rfl

theorem avD_rel {ok ok' : Nat → Prop} {a : AV} {v : Value} (h : RelV w ok ι a v) (hun : a ≠ .un) (hud : a ≠ .ud) {agg : Bool} (hag : a.isAg = agg) {t : Ty} {x : t.den} (hx : Rz w ok' t x v.cells.toList) : RelV w ok' ι' (avD agg t x) v := by
  have hu := RelL_unpack (w := w) (ok := ok') (ι := ι') t x _ hx
  unfold avD
  cases agg with
  | true =>
    rw [if_pos rfl]
    cases a <;> (try (cases hag; done))
    rename_i cs
    simp only [RelV] at h ⊢
    obtain ⟨us, e, h1⟩ := h
    subst e
    exact ⟨us, rfl, hu⟩
  | false =>
    rw [if_neg (by simp)]
    rw [cells_one h hun hud hag] at hu
    split
    · rename_i y hy
      rw [hy] at hu
      obtain ⟨v', vr, e, h1, h2⟩ := RelL_cons.1 hu
      injection e with e1 e2
      subst e1
      exact h1
    · simp only [RelV]

theorem Frz.append {f g : List (Nat × Blk)} (h : Frz X keep w0 ι C C0 w f) (k : Frz X keep w0 ι C (updC C0 f) w g) : Frz X keep w0 ι C C0 w (f ++ g) := by
  unfold Frz
  rw [updC_append]
  exact ⟨k.1, k.2.1, h.2.2.trans k.2.2⟩

def Renames (ρ : List Nat) (ι ι' : Nat → Option Value) : Prop := ∀ b i, ρ[b]? = some i → ι' b = ι i

mutual
theorem SV.take_sound {ρ : List Nat} : ∀ (sv : SV) (C0 : Nat → Blk) (v : AV) (u : Value), HRel X keep w0 ι C0 w → FrozenOf C C0 → RelV w (okb X w ι C0) ι v u → ∀ (x : sv.den) (f : List (Nat × Blk)), sv.take C ρ v = some (x, f) →
    Frz X keep w0 ι C C0 w f ∧ ∀ (ok' : Nat → Prop) (ι' : Nat → Option Value), (∀ g, okb X w ι (updC C0 f) g → ok' g) → Renames ρ ι ι' → RelV w ok' ι' (sv.put x) u
  | .d agg t, C0, v, u, h, hf, hv, x, f, ht => by
    simp only [SV.take] at ht
    split at ht
    · rename_i hag
      obtain ⟨h1, h2⟩ := dat_sound h hf hv ht
      refine ⟨h1, fun ok' ι' ho hr => ?_⟩
      have hun : v ≠ .un := by rintro rfl; simp [dat] at ht
      have hud : v ≠ .ud := by rintro rfl; simp [dat] at ht
      exact avD_rel hv hun hud (eqB_iff hag) (Rz_mono (fun _ _ _ _ e => e) ho _ _ _ h2)
    · cases ht
  | .rf b, C0, v, u, h, hf, hv, x, f, ht => by
    cases v <;> simp only [SV.take] at ht <;> (try (cases ht; done))
    rename_i i
    split at ht
    · rename_i hi
      injection ht with ht
      injection ht with q1 q2
      subst q2
      refine ⟨Frz.nil h hf, fun ok' ι' ho hr => ?_⟩
      simp only [SV.put, RelV] at hv ⊢
      rw [hr b i (atN_iff hi)]
      exact hv
    · cases ht
  | .rs b sz, C0, v, u, h, hf, hv, x, f, ht => by
    cases v <;> simp only [SV.take] at ht <;> (try (cases ht; done))
    rename_i i sz' off len
    split at ht
    · rename_i hi
      simp only [Bool.and_eq_true] at hi
      have hsz := Nat.eq_of_beq_eq_true hi.2
      subst hsz
      injection ht with ht
      injection ht with q1 q2
      subst q1; subst q2
      refine ⟨Frz.nil h hf, fun ok' ι' ho hr => ?_⟩
      simp only [SV.put, RelV] at hv ⊢
      rw [hr b i (atN_iff hi.1)]
      exact hv
    · cases ht
  | .rz b sz, C0, v, u, h, hf, hv, x, f, ht => by
    cases v <;> simp only [SV.take] at ht <;> (try (cases ht; done))
    rename_i i sz' off len
    split at ht
    · rename_i hi
      simp only [Bool.and_eq_true] at hi
      have hsz := Nat.eq_of_beq_eq_true hi.1.2
      subst hsz
      have hof := Nat.eq_of_beq_eq_true hi.2
      subst hof
      injection ht with ht
      injection ht with q1 q2
      subst q1; subst q2
      refine ⟨Frz.nil h hf, fun ok' ι' ho hr => ?_⟩
      simp only [SV.put, RelV] at hv ⊢
      rw [hr b i (atN_iff hi.1.1)]
      exact hv
    · cases ht
  | .pt b o, C0, v, u, h, hf, hv, x, f, ht => by
    cases v <;> simp only [SV.take] at ht <;> (try (cases ht; done))
    rename_i i o'
    split at ht
    · rename_i hi
      simp only [Bool.and_eq_true] at hi
      have hsz := Nat.eq_of_beq_eq_true hi.2
      subst hsz
      injection ht with ht
      injection ht with q1 q2
      subst q2
      refine ⟨Frz.nil h hf, fun ok' ι' ho hr => ?_⟩
      simp only [SV.put, RelV] at hv ⊢
      rw [hr b i (atN_iff hi.1)]
      exact hv
    · cases ht
  | .ud, C0, v, u, h, hf, hv, x, f, ht => by
    cases v <;> simp only [SV.take] at ht <;> (try (cases ht; done))
    injection ht with ht
    injection ht with q1 q2
    subst q2
    refine ⟨Frz.nil h hf, fun ok' ι' ho hr => ?_⟩
    simp only [SV.put, RelV] at hv ⊢
    exact hv
  | .fn g cs, C0, v, u, h, hf, hv, x, f, ht => by
    cases v <;> simp only [SV.take] at ht <;> (try (cases ht; done))
    rename_i g' vs
    split at ht
    · rename_i hg
      have hg := Nat.eq_of_beq_eq_true hg
      subst hg
      simp only [RelV] at hv
      obtain ⟨us, e, h1⟩ := hv
      obtain ⟨k1, k2⟩ := SV.takeL_sound cs C0 vs us h hf h1 x f ht
      refine ⟨k1, fun ok' ι' ho hr => ?_⟩
      simp only [SV.put, RelV]
      exact ⟨us, e, k2 ok' ι' ho hr⟩
    · cases ht
theorem SV.takeL_sound {ρ : List Nat} : ∀ (l : List SV) (C0 : Nat → Blk) (vs : List AV) (us : List Value), HRel X keep w0 ι C0 w → FrozenOf C C0 → RelL w (okb X w ι C0) ι vs us → ∀ (x : SV.denL l) (f : List (Nat × Blk)), SV.takeL C ρ l vs = some (x, f) →
    Frz X keep w0 ι C C0 w f ∧ ∀ (ok' : Nat → Prop) (ι' : Nat → Option Value), (∀ g, okb X w ι (updC C0 f) g → ok' g) → Renames ρ ι ι' → RelL w ok' ι' (SV.putL l x) us
  | [], C0, vs, us, h, hf, hv, x, f, ht => by
    cases vs <;> simp only [SV.takeL] at ht <;> (try (cases ht; done))
    injection ht with ht
    injection ht with q1 q2
    subst q2
    refine ⟨Frz.nil h hf, fun ok' ι' ho hr => ?_⟩
    simp only [SV.putL]
    rw [RelL_nil.1 hv]
    exact RelL_nil.2 rfl
  | a :: r, C0, vs, us, h, hf, hv, x, f, ht => by
    cases vs <;> simp only [SV.takeL] at ht <;> (try (cases ht; done))
    rename_i v vs
    obtain ⟨u, ur, e, h1, h2⟩ := RelL_cons.1 hv
    split at ht
    · rename_i x1 f1 e1
      split at ht
      · rename_i x2 f2 e2
        injection ht with ht
        injection ht with q1 q2
        subst q1; subst q2
        obtain ⟨k1, k2⟩ := SV.take_sound a C0 v u h hf h1 x1 f1 e1
        obtain ⟨l1, l2⟩ := SV.takeL_sound r (updC C0 f1) vs ur k1.1 k1.2.1 (k1.2.2.vals h2) x2 f2 e2
        refine ⟨k1.append l1, fun ok' ι' ho hr => ?_⟩
        rw [updC_append] at ho
        simp only [SV.putL]
        exact RelL_cons.2 ⟨u, ur, e, k2 ok' ι' (fun g hg => ho g (l1.2.2.ok g hg)) hr, l2 ok' ι' ho hr⟩
      · cases ht
    · cases ht
end

theorem takeS_sound {ρ : List Nat} {T : Nat → AV} {V : Nat → Value} : ∀ (l : List (Nat × SV)) (C0 : Nat → Blk), HRel X keep w0 ι C0 w → FrozenOf C C0 → (∀ t, RelV w (okb X w ι C0) ι (T t) (V t)) → ∀ (x : denS l) (f : List (Nat × Blk)), takeS C T ρ l = some (x, f) →
    Frz X keep w0 ι C C0 w f ∧ ∀ (ok' : Nat → Prop) (ι' : Nat → Option Value), (∀ g, okb X w ι (updC C0 f) g → ok' g) → Renames ρ ι ι' → ∀ t, RelV w ok' ι' (getT (putS l x) t) (V t)
  | [], C0, h, hf, hT, x, f, ht => by
    simp only [takeS] at ht
    injection ht with ht
    injection ht with q1 q2
    subst q2
    exact ⟨Frz.nil h hf, fun ok' ι' ho hr t => by simp only [putS, getT, RelV]⟩
  | p :: r, C0, h, hf, hT, x, f, ht => by
    simp only [takeS] at ht
    split at ht
    · rename_i x1 f1 e1
      split at ht
      · rename_i x2 f2 e2
        injection ht with ht
        injection ht with q1 q2
        subst q1; subst q2
        obtain ⟨k1, k2⟩ := SV.take_sound p.2 C0 (T p.1) (V p.1) h hf (hT _) x1 f1 e1
        obtain ⟨l1, l2⟩ := takeS_sound r (updC C0 f1) k1.1 k1.2.1 (fun t => k1.2.2.val (hT t)) x2 f2 e2
        refine ⟨k1.append l1, fun ok' ι' ho hr t => ?_⟩
        rw [updC_append] at ho
        simp only [putS, getT]
        split
        · rename_i hb
          rw [← Nat.eq_of_beq_eq_true hb]
          exact k2 ok' ι' (fun g hg => ho g (l1.2.2.ok g hg)) hr
        · exact l2 ok' ι' ho hr t
      · cases ht
    · cases ht

theorem SB.take_sound {ρ : List Nat} (sb : SB) (C0 : Nat → Blk) {i : Nat} (h : HRel X keep w0 ι C0 w) (hf : FrozenOf C C0) (x : sb.den) (f : List (Nat × Blk)) (ht : sb.take C ρ (C i) = some (x, f)) :
    Frz X keep w0 ι C C0 w f ∧ ∀ (C1 : Nat → Blk) (ok' : Nat → Prop) (ι' : Nat → Option Value) (j : Nat), C1 i = C i → RelB w (okb X w ι C1) ι i (C1 i) → (∀ g, okb X w ι (updC C0 f) g → ok' g) → (∀ g, okb X w ι C1 g → ok' g) → Renames ρ ι ι' → ι' j = ι i →
      RelB w ok' ι' j (sb.put x) ∧ ∀ C' : Nat → Blk, C' j = sb.put x → bk ι' C' j = bk ι C1 i := by
  have hC0 := hf i
  cases sb with
  | row t e =>
    cases hC : C i with
    | row t' e' xs rw =>
      rw [hC] at ht
      cases rw with
      | true =>
        simp only [SB.take] at ht
        split at ht
        · rename_i hty _
          have hty := hty.down
          subst hty
          split at ht
          · rename_i he
            have he := Nat.eq_of_beq_eq_true he
            subst he
            injection ht with ht
            injection ht with q1 q2
            subst q1; subst q2
            refine ⟨Frz.nil h hf, fun C1 ok' ι' j h1 h2 ho ho1 hr hi => ?_⟩
            rw [h1] at h2
            obtain ⟨v, cs, k1, k2, k3⟩ := h2
            refine ⟨⟨v, cs, by rw [hi]; exact k1, k2, RzL_mono (Rz_mono (fun _ _ _ _ e => e) ho1 _) k3⟩, fun C' hC' => ?_⟩
            unfold bk
            rw [hC', h1, hi]
            rfl
          · cases ht
        · cases ht
      | false => cases ht
    | box cs => rw [hC] at ht; cases ht
    | it s p => rw [hC] at ht; cases ht
    | dead => rw [hC] at ht; cases ht
  | box cs =>
    cases hC : C i with
    | row t' e' xs rw => rw [hC] at ht; cases rw <;> cases ht
    | box vs =>
      rw [hC] at ht
      simp only [SB.take] at ht
      have hbx : C0 i = .box vs := by
        rcases hC0 with e | ⟨t, e, xs, e1, _⟩
        · rw [e, hC]
        · rw [hC] at e1; cases e1
      have hb := h.bl i
      rw [hbx] at hb
      obtain ⟨g, e, us, k1, k2, k3⟩ := hb
      obtain ⟨l1, l2⟩ := SV.takeL_sound cs C0 vs us h hf k3 x f ht
      refine ⟨l1, fun C1 ok' ι' j h1 h2 ho ho1 hr hi => ⟨⟨g, e, us, by rw [hi]; exact k1, k2, l2 ok' ι' ho hr⟩, fun C' hC' => ?_⟩⟩
      unfold bk
      rw [hC', h1, hi, k1]
      rfl
    | it s p => rw [hC] at ht; cases ht
    | dead => rw [hC] at ht; cases ht
  | it =>
    cases hC : C i with
    | row t' e' xs rw => rw [hC] at ht; cases rw <;> cases ht
    | box vs => rw [hC] at ht; cases ht
    | it s p =>
      rw [hC] at ht
      simp only [SB.take] at ht
      injection ht with ht
      injection ht with q1 q2
      subst q1; subst q2
      refine ⟨Frz.nil h hf, fun C1 ok' ι' j h1 h2 ho ho1 hr hi => ?_⟩
      rw [h1] at h2
      obtain ⟨g, k1, k2⟩ := h2
      refine ⟨⟨g, by rw [hi]; exact k1, k2⟩, fun C' hC' => ?_⟩
      unfold bk
      rw [hC', h1, hi]
      rfl
    | dead => rw [hC] at ht; cases ht

theorem takeB_sound {ρ : List Nat} : ∀ (l : List SB) (is : List Nat) (j0 : Nat) (C0 : Nat → Blk), HRel X keep w0 ι C0 w → FrozenOf C C0 → (∀ k i, is[k]? = some i → ρ[j0 + k]? = some i) → ∀ (x : denB l) (f : List (Nat × Blk)), takeB C ρ l is = some (x, f) →
    Frz X keep w0 ι C C0 w f ∧ l.length = is.length ∧ ∀ (C1 : Nat → Blk) (ok' : Nat → Prop) (ι' : Nat → Option Value), (∀ i ∈ is, C1 i = C i) → (∀ i, RelB w (okb X w ι C1) ι i (C1 i)) → (∀ g, okb X w ι (updC C0 f) g → ok' g) → (∀ g, okb X w ι C1 g → ok' g) → Renames ρ ι ι' →
      ∀ k i, is[k]? = some i → RelB w ok' ι' (j0 + k) (getB (putB l x) k) ∧ ∀ C' : Nat → Blk, C' (j0 + k) = getB (putB l x) k → bk ι' C' (j0 + k) = bk ι C1 i
  | [], is, j0, C0, h, hf, hi, x, f, ht => by
    cases is <;> simp only [takeB] at ht <;> (try (cases ht; done))
    injection ht with ht
    injection ht with q1 q2
    subst q2
    exact ⟨Frz.nil h hf, rfl, fun C1 ok' ι' _ _ _ _ _ k i hk => by simp at hk⟩
  | a :: r, is, j0, C0, h, hf, hi, x, f, ht => by
    cases is <;> simp only [takeB] at ht <;> (try (cases ht; done))
    rename_i i0 is
    split at ht
    · rename_i x1 f1 e1
      split at ht
      · rename_i x2 f2 e2
        injection ht with ht
        injection ht with q1 q2
        subst q1; subst q2
        obtain ⟨k1, k2⟩ := SB.take_sound a C0 h hf x1 f1 e1
        obtain ⟨l1, l2, l3⟩ := takeB_sound r is (j0 + 1) (updC C0 f1) k1.1 k1.2.1 (fun k i hk => by
          have := hi (k + 1) i (by simpa using hk)
          rwa [show j0 + 1 + k = j0 + (k + 1) by omega]) x2 f2 e2
        refine ⟨k1.append l1, by simp [l2], fun C1 ok' ι' hC1 hB ho ho1 hr k i hk => ?_⟩
        rw [updC_append] at ho
        cases k with
        | zero =>
          simp only [List.getElem?_cons_zero, Option.some.injEq] at hk
          subst hk
          exact k2 C1 ok' ι' j0 (hC1 _ (List.mem_cons_self ..)) (hB _) (fun g hg => ho g (l1.2.2.ok g hg)) ho1 hr (hr _ _ (hi 0 _ rfl))
        | succ k =>
          have := l3 C1 ok' ι' (fun i hi => hC1 i (List.mem_cons_of_mem _ hi)) hB ho ho1 hr k i (by simpa using hk)
          rw [show j0 + 1 + k = j0 + (k + 1) by omega] at this
          exact this
      · cases ht
    · cases ht

theorem putB_length : ∀ (l : List SB) (x : denB l), (putB l x).length = l.length
  | [], _ => rfl
  | _ :: r, x => by simp [putB, putB_length r x.2]

/-- A box's memory. -/
def Bx (ι : Nat → Option Value) (C : Nat → Blk) (b : Nat) : Prop := ∃ k vs, C k = .box vs ∧ bk ι C k = some b

theorem Bx_of {ι ι' : Nat → Option Value} {C C' : Nat → Blk} (h : ∀ k vs, C k = .box vs → (∃ vs', C' k = .box vs') ∧ ι' k = ι k) {b : Nat} : Bx ι C b → Bx ι' C' b := by
  rintro ⟨k, vs, h1, h2⟩
  obtain ⟨⟨vs', h3⟩, h4⟩ := h k vs h1
  refine ⟨k, vs', h3, ?_⟩
  rw [← h2]
  unfold bk
  rw [h3, h1, h4]
  cases ι k with
  | none => rfl
  | some v =>
    cases v <;> (try rfl)
    rename_i p
    cases p <;> rfl

theorem Shape.take1_sound {n : Slots} {sh : Shape} {s : St} {a : Act} {ρ : List Nat} (h : SRel X keep w0 n ι s a w) {x : sh.den} (ht : sh.take1 s ρ = some x) (Y : Nat → Prop) (hY : ∀ b, Y b → Bx ι (getB s.bl) b ∧ b < w0.heap.size ∧ ∀ i ∈ ρ, bk ι (getB s.bl) i ≠ some b) :
    ∃ ι', SRel (fun b => X b ∨ Y b) keep w0 n ι' (sh.put x) a w ∧ ∀ b, owned ι' (getB (sh.put x).bl) b → ∃ i ∈ ρ, bk ι (getB s.bl) i = some b := by
  unfold Shape.take1 at ht
  split at ht
  · rename_i hnd
    have hnd := nodupN_iff hnd
    split at ht
    · rename_i x1 f1 e1
      split at ht
      · rename_i x2 f2 e2
        split at ht
        · cases ht
        · rename_i hmt
          have hmt : meetN ρ (updIds (f1 ++ f2)) = false := by simpa using hmt
          injection ht with ht
          subst ht
          obtain ⟨a1, a2⟩ := takeS_sound sh.sl _ h.f.h (FrozenOf.refl _) h.f.tm x1 f1 e1
          obtain ⟨b1, b2, b3⟩ := takeB_sound sh.bl ρ 0 _ a1.1 a1.2.1 (fun k i hk => by rw [Nat.zero_add]; exact hk) x2 f2 e2
          have hF := a1.append b1
          let C1 := updC (getB s.bl) (f1 ++ f2)
          have hC1 : C1 = updC (updC (getB s.bl) f1) f2 := updC_append _ _ _
          let ι' : Nat → Option Value := fun j => (ρ[j]?).bind ι
          have hι' : Renames ρ ι ι' := fun j i e => by show (ρ[j]?).bind ι = _; rw [e]; rfl
          let C' := getB (putB sh.bl x2)
          have hHR : HRel X keep w0 ι C1 w := hF.1
          have same : ∀ i ∈ ρ, C1 i = getB s.bl i := fun i hi => updC_other _ _ _ (meetN_false hmt i hi)
          -- who owns what
          have hbk : ∀ j b, bk ι' C' j = some b → ∃ i, ρ[j]? = some i ∧ bk ι C1 i = some b := by
            intro j b hb
            cases hi : ρ[j]? with
            | none =>
              have h1 : C' j = .dead := getB_out _ _ (by rw [putB_length, b2]; exact List.getElem?_eq_none_iff.1 hi)
              rw [bk_dead h1] at hb
              cases hb
            | some i =>
              refine ⟨i, rfl, ?_⟩
              rw [← hb]
              have := (b3 C1 (fun _ => True) ι' same hHR.bl (fun _ _ => trivial) (fun _ _ => trivial) hι' j i hi).2 C' (by rw [Nat.zero_add])
              rw [Nat.zero_add] at this
              exact this.symm
          have hown : ∀ b, owned ι' C' b → owned ι C1 b := by
            rintro b ⟨j, hj⟩
            obtain ⟨i, _, hi⟩ := hbk j b hj
            exact ⟨i, hi⟩
          have hYo : ∀ b, Y b → owned ι C1 b := by
            intro b hb
            obtain ⟨⟨k, vs, q1, q2⟩, _, _⟩ := hY b hb
            refine ⟨k, ?_⟩
            rw [← q2]
            refine bk_congr ?_ rfl
            rcases hF.2.1 k with q | ⟨t, e, xs, q, _⟩
            · exact q
            · rw [q1] at q; cases q
          have hok : ∀ b, okb X w ι C1 b → okb (fun b => X b ∨ Y b) w ι' C' b := fun b hb => ⟨hb.1, fun ho => hb.2.1 (hown b ho), fun hx => hx.elim hb.2.2 fun hy => hb.2.1 (hYo b hy)⟩
          have hfin : ∀ b, owned ι' (getB (sh.put (x1, x2)).bl) b → ∃ i ∈ ρ, bk ι (getB s.bl) i = some b := by
            rintro b ⟨j, hj⟩
            obtain ⟨i, hi, hb⟩ := hbk j b hj
            have hm : i ∈ ρ := List.mem_of_getElem? hi
            exact ⟨i, hm, by rw [← hb]; exact (bk_congr (same i hm) rfl).symm⟩
          refine ⟨ι', ⟨⟨⟨fun j => ?_, fun j j' b h1 h2 => ?_, hHR.fr, fun b hb => hHR.own b (hown b hb), hHR.kl, fun b hb hx => hx.elim (hHR.ox b (hown b hb)) fun hy => (by
            obtain ⟨j, hj⟩ := hb
            obtain ⟨i, hi, hb'⟩ := hbk j b hj
            have hm : i ∈ ρ := List.mem_of_getElem? hi
            exact (hY b hy).2.2 i hm (by rw [← hb']; exact (bk_congr (same i hm) rfl).symm)), fun b hb => hb.elim (hHR.xl b) fun hy => (hY b hy).2.1⟩, fun t => ?_, h.f.size, h.f.defers⟩, fun j hj => ?_⟩, hfin⟩
          · show RelB w (okb (fun b => X b ∨ Y b) w ι' C') ι' j (C' j)
            cases hi : ρ[j]? with
            | none =>
              have h1 : C' j = .dead := getB_out _ _ (by rw [putB_length, b2]; exact List.getElem?_eq_none_iff.1 hi)
              rw [h1]
              trivial
            | some i =>
              have := (b3 C1 (okb (fun b => X b ∨ Y b) w ι' C') ι' same hHR.bl (fun g hg => hok g (by rw [hC1]; exact hg)) hok hι' j i hi).1
              rw [Nat.zero_add] at this
              exact this
          · obtain ⟨i, hi, hb⟩ := hbk j b h1
            obtain ⟨i', hi', hb'⟩ := hbk j' b h2
            have e := hHR.inj i i' b hb hb'
            subst e
            have hlt := (List.getElem?_eq_some_iff.1 hi).1
            exact (List.getElem?_inj hlt hnd).1 (hi.trans hi'.symm)
          · exact a2 (okb (fun b => X b ∨ Y b) w ι' C') ι' (fun g hg => hok g (by rw [hC1]; exact b1.2.2.ok g hg)) hι' t
          · have hl : (sh.put (x1, x2)).bl.length = ρ.length := by rw [← b2]; exact putB_length _ _
            show (ρ[j]?).bind ι = none
            rw [List.getElem?_eq_none (by omega)]
            rfl
      · cases ht
    · cases ht
  · cases ht
end
end Go.Proofs.Rf
