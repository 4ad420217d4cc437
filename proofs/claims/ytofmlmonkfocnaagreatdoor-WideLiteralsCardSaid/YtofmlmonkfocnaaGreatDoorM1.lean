/- Texts put together: Ha, Hb, Hc, Hd, He, Fk, Fl, Fm, Fn, Fo. -/
import Derived.Test.YtofmlmonkfocnaaGreatDoorM0
import Derived.LaidEql
import Derived.Laws.StructEq
import Derived.ChangeKeysEq
import Derived.Lib.Builder
import Derived.Lib.UnsafeStr
import Derived.Lib.AppendStr
import Derived.Laws.Runes
import Derived.Laws.IdiomStrings
import Derived.Laws.BytesArg
import Derived.Laws.Externs
import Derived.CallsIn
import Derived.OrdersIn
/- Rf, part ja: maps, and pointers held against nil. -/
namespace Go.Proofs.Rf
open Go Go.RowKit

/-! ### Pairs -/
theorem keq_iff : ∀ {kt : Ty} (_ : kt.key = true) (a b : kt.den), kt.keq a b = true ↔ a = b
  | .int _, _, a, b => by simp [Ty.keq]
  | .str, _, a, b => by simp [Ty.keq]
  | .bool, _, a, b => by simp [Ty.keq]
  | .sl _, h, _, _ => by cases h
  | .pr _ _, h, _, _ => by cases h
  | .un, h, _, _ => by cases h
  | .fk _, h, _, _ => by cases h
  | .ic, h, _, _ => by cases h
  | .fv, h, _, _ => by cases h
  | .tr _ _, h, _, _ => by cases h

section
variable {kt vt : Ty} (hk : kt.key = true)
include hk

theorem lookM_some {l : List (kt.den × vt.den)} {q : kt.den} {x : vt.den} (hn : (l.map fun p => p.1).Nodup) : lookM kt vt l q = some x ↔ (q, x) ∈ l := by
  induction l with
  | nil => simp [lookM]
  | cons p r ih =>
    have hn' := List.nodup_cons.1 hn
    simp only [lookM]
    by_cases e : kt.keq q p.1 = true
    · have e' := (keq_iff hk _ _).1 e
      rw [if_pos e]
      constructor
      · intro h
        injection h with h
        rw [e', ← h]
        exact List.mem_cons_self
      · intro h
        rcases List.mem_cons.1 h with h | h
        · rw [← h]
        · exact (hn'.1 (by show p.1 ∈ _; rw [← e']; exact List.mem_map.2 ⟨_, h, rfl⟩)).elim
    · rw [if_neg e, ih hn'.2]
      constructor
      · exact fun h => List.mem_cons_of_mem _ h
      · intro h
        rcases List.mem_cons.1 h with h | h
        · exact (e ((keq_iff hk _ _).2 (by rw [← h]))).elim
        · exact h

theorem lookM_none {l : List (kt.den × vt.den)} {q : kt.den} : lookM kt vt l q = none ↔ q ∉ l.map fun p => p.1 := by
  induction l with
  | nil => simp [lookM]
  | cons p r ih =>
    simp only [lookM, List.map_cons, List.mem_cons, not_or]
    by_cases e : kt.keq q p.1 = true
    · rw [if_pos e]
      exact ⟨fun h => (by cases h), fun h => absurd ((keq_iff hk _ _).1 e) h.1⟩
    · rw [if_neg e, ih]
      exact ⟨fun h => ⟨fun h2 => e ((keq_iff hk _ _).2 h2), h⟩, fun h => h.2⟩

theorem lookM_perm {l l' : List (kt.den × vt.den)} (h : l'.Perm l) (hn : (l.map fun p => p.1).Nodup) (q : kt.den) : lookM kt vt l' q = lookM kt vt l q := by
  have hn' : (l'.map fun p => p.1).Nodup := ((h.map _).nodup_iff).2 hn
  cases e : lookM kt vt l q with
  | none =>
    rw [lookM_none hk] at e ⊢
    exact fun hm => e ((h.map _).mem_iff.1 hm)
  | some x =>
    rw [lookM_some hk hn] at e
    rw [lookM_some hk hn']
    exact h.mem_iff.2 e

theorem setM_keys {l : List (kt.den × vt.den)} {q : kt.den} {u : vt.den} (hn : (l.map fun p => p.1).Nodup) : ((setM kt vt l q u).map fun p => p.1).Nodup ∧ ∀ z, z ∈ (setM kt vt l q u).map (fun p => p.1) → z = q ∨ z ∈ l.map fun p => p.1 := by
  induction l with
  | nil => simp [setM]
  | cons p r ih =>
    have hn' := List.nodup_cons.1 hn
    simp only [setM]
    by_cases e : kt.keq q p.1 = true
    · have e' := (keq_iff hk _ _).1 e
      rw [if_pos e]
      rw [e']
      exact ⟨hn, fun z hz => .inr hz⟩
    · rw [if_neg e]
      obtain ⟨i1, i2⟩ := ih hn'.2
      refine ⟨List.nodup_cons.2 ⟨fun hm => ?_, i1⟩, fun z hz => ?_⟩
      · rcases i2 _ hm with h | h
        · exact e ((keq_iff hk _ _).2 h.symm)
        · exact hn'.1 h
      · rcases List.mem_cons.1 hz with h | h
        · exact .inr (h ▸ List.mem_cons_self)
        · rcases i2 _ h with h | h
          · exact .inl h
          · exact .inr (List.mem_cons_of_mem _ h)

theorem setM_mem {l : List (kt.den × vt.den)} {q : kt.den} {u : vt.den} (hn : (l.map fun p => p.1).Nodup) (z : kt.den × vt.den) : z ∈ setM kt vt l q u ↔ z = (q, u) ∨ (z ∈ l ∧ z.1 ≠ q) := by
  induction l with
  | nil => simp [setM]
  | cons p r ih =>
    have hn' := List.nodup_cons.1 hn
    simp only [setM]
    by_cases e : kt.keq q p.1 = true
    · have e' := (keq_iff hk _ _).1 e
      rw [if_pos e, List.mem_cons, List.mem_cons]
      constructor
      · rintro (h | h)
        · exact .inl h
        · exact .inr ⟨.inr h, fun h2 => hn'.1 (by show p.1 ∈ _; rw [← e', ← h2]; exact List.mem_map.2 ⟨_, h, rfl⟩)⟩
      · rintro (h | ⟨h | h, h2⟩)
        · exact .inl h
        · exact (h2 (by rw [h, e'])).elim
        · exact .inr h
    · rw [if_neg e, List.mem_cons, List.mem_cons, ih hn'.2]
      constructor
      · rintro (h | h | h)
        · exact .inr ⟨.inl h, fun h2 => e ((keq_iff hk _ _).2 (by rw [← h2, h]))⟩
        · exact .inl h
        · exact .inr ⟨.inr h.1, h.2⟩
      · rintro (h | ⟨h | h, h2⟩)
        · exact .inr (.inl h)
        · exact .inl h
        · exact .inr (.inr ⟨h, h2⟩)

omit hk in
theorem perm_of_mem {l l' : List (kt.den × vt.den)} (hn : (l.map fun p => p.1).Nodup) (hn' : (l'.map fun p => p.1).Nodup) (h : ∀ z, z ∈ l' ↔ z ∈ l) : l'.Perm l := by
  have nd : ∀ {m : List (kt.den × vt.den)}, (m.map fun p => p.1).Nodup → m.Nodup := by
    intro m
    induction m with
    | nil => intro _; exact List.nodup_nil
    | cons a r ih =>
      intro h
      have h' := List.nodup_cons.1 h
      exact List.nodup_cons.2 ⟨fun hm => h'.1 (List.mem_map.2 ⟨_, hm, rfl⟩), ih h'.2⟩
  classical
  exact (List.perm_ext_iff_of_nodup (nd hn') (nd hn)).2 h

theorem setM_perm {l l' : List (kt.den × vt.den)} (h : l'.Perm l) (hn : (l.map fun p => p.1).Nodup) (q : kt.den) (u : vt.den) : (setM kt vt l' q u).Perm (setM kt vt l q u) := by
  have hn' : (l'.map fun p => p.1).Nodup := ((h.map _).nodup_iff).2 hn
  refine perm_of_mem (setM_keys hk hn).1 (setM_keys hk hn').1 fun z => ?_
  rw [setM_mem hk hn, setM_mem hk hn', h.mem_iff]

theorem delM_mem {l : List (kt.den × vt.den)} {q : kt.den} (hn : (l.map fun p => p.1).Nodup) (z : kt.den × vt.den) : z ∈ delM kt vt l q ↔ z ∈ l ∧ z.1 ≠ q := by
  induction l with
  | nil => simp [delM]
  | cons p r ih =>
    have hn' := List.nodup_cons.1 hn
    simp only [delM]
    by_cases e : kt.keq q p.1 = true
    · have e' := (keq_iff hk _ _).1 e
      rw [if_pos e, List.mem_cons]
      constructor
      · intro h
        exact ⟨.inr h, fun h2 => hn'.1 (by show p.1 ∈ _; rw [← e', ← h2]; exact List.mem_map.2 ⟨_, h, rfl⟩)⟩
      · rintro ⟨h | h, h2⟩
        · exact (h2 (by rw [h, e'])).elim
        · exact h
    · rw [if_neg e, List.mem_cons, List.mem_cons, ih hn'.2]
      constructor
      · rintro (h | h)
        · exact ⟨.inl h, fun h2 => e ((keq_iff hk _ _).2 (by rw [← h2, h]))⟩
        · exact ⟨.inr h.1, h.2⟩
      · rintro ⟨h | h, h2⟩
        · exact .inl h
        · exact .inr ⟨h, h2⟩

theorem delM_keys {l : List (kt.den × vt.den)} {q : kt.den} (hn : (l.map fun p => p.1).Nodup) : ((delM kt vt l q).map fun p => p.1).Nodup := by
  induction l with
  | nil => simp [delM]
  | cons p r ih =>
    have hn' := List.nodup_cons.1 hn
    simp only [delM]
    by_cases e : kt.keq q p.1 = true
    · rw [if_pos e]; exact hn'.2
    · rw [if_neg e]
      refine List.nodup_cons.2 ⟨fun hm => ?_, ih hn'.2⟩
      obtain ⟨z, hz, h2⟩ := List.mem_map.1 hm
      have h2 : z.1 = p.1 := h2
      exact hn'.1 (by show p.1 ∈ _; rw [← h2]; exact List.mem_map.2 ⟨z, ((delM_mem hk hn'.2 z).1 hz).1, rfl⟩)

theorem delM_perm {l l' : List (kt.den × vt.den)} (h : l'.Perm l) (hn : (l.map fun p => p.1).Nodup) (q : kt.den) : (delM kt vt l' q).Perm (delM kt vt l q) := by
  have hn' : (l'.map fun p => p.1).Nodup := ((h.map _).nodup_iff).2 hn
  refine perm_of_mem (delM_keys hk hn) (delM_keys hk hn') fun z => ?_
  rw [delM_mem hk hn, delM_mem hk hn', h.mem_iff]
end

/-! ### Data, told of in another world -/
theorem RelL_dat {w w' : World} {ok ok' : Nat → Prop} {ι ι' : Nat → Option Value} (hc : ∀ g o v, ok g → w.cell? ⟨g, o, none⟩ = some v → w'.cell? ⟨g, o, none⟩ = some v) (hok : ∀ g, ok g → ok' g) : ∀ (t : Ty) (x : t.den) (us : List Value), RelL w ok ι (unpack t x) us → RelL w' ok' ι' (unpack t x) us
  | .pr a b, x, us, h => by
    obtain ⟨u1, u2, e, h1, h2⟩ := RelL_split (show RelL w ok ι (unpack a x.1 ++ unpack b x.2) us from h)
    rw [e]
    exact RelL_append (RelL_dat hc hok a x.1 u1 h1) (RelL_dat hc hok b x.2 u2 h2)
  | .un, _, us, h => RelL_nil.2 (RelL_nil.1 h)
  | .fk f, _, us, h => by
    obtain ⟨v, vr, e, h1, h2⟩ := RelL_cons.1 (show RelL w ok ι [.fn f []] us from h)
    simp only [RelV] at h1
    obtain ⟨q, e1, h3⟩ := h1
    rw [RelL_nil.1 h3] at e1
    rw [e, RelL_nil.1 h2]
    refine RelL_cons.2 ⟨v, [], rfl, ?_, RelL_nil.2 rfl⟩
    simp only [RelV]
    exact ⟨[], e1, RelL_nil.2 rfl⟩
  | .int k, x, us, h => by
    obtain ⟨v, vr, e, h1, h2⟩ := RelL_cons.1 (show RelL w ok ι [.d (.int k) x] us from h)
    simp only [RelV] at h1
    rw [e, RelL_nil.1 h2]
    refine RelL_cons.2 ⟨v, [], rfl, ?_, RelL_nil.2 rfl⟩
    simp only [RelV]
    exact Rz_mono hc hok _ _ _ h1
  | .bool, x, us, h => by
    obtain ⟨v, vr, e, h1, h2⟩ := RelL_cons.1 (show RelL w ok ι [.d .bool x] us from h)
    simp only [RelV] at h1
    rw [e, RelL_nil.1 h2]
    refine RelL_cons.2 ⟨v, [], rfl, ?_, RelL_nil.2 rfl⟩
    simp only [RelV]
    exact Rz_mono hc hok _ _ _ h1
  | .str, x, us, h => by
    obtain ⟨v, vr, e, h1, h2⟩ := RelL_cons.1 (show RelL w ok ι [.d .str x] us from h)
    simp only [RelV] at h1
    rw [e, RelL_nil.1 h2]
    refine RelL_cons.2 ⟨v, [], rfl, ?_, RelL_nil.2 rfl⟩
    simp only [RelV]
    exact Rz_mono hc hok _ _ _ h1
  | .ic, x, us, h => by
    obtain ⟨v, vr, e, h1, h2⟩ := RelL_cons.1 (show RelL w ok ι [.d .ic x] us from h)
    simp only [RelV] at h1
    rw [e, RelL_nil.1 h2]
    refine RelL_cons.2 ⟨v, [], rfl, ?_, RelL_nil.2 rfl⟩
    simp only [RelV]
    exact Rz_mono hc hok _ _ _ h1
  | .fv, x, us, h => by
    obtain ⟨v, vr, e, h1, h2⟩ := RelL_cons.1 (show RelL w ok ι [.d .fv x] us from h)
    simp only [RelV] at h1
    rw [e, RelL_nil.1 h2]
    refine RelL_cons.2 ⟨v, [], rfl, ?_, RelL_nil.2 rfl⟩
    simp only [RelV]
    exact Rz_mono hc hok _ _ _ h1
  | .sl t, x, us, h => by
    obtain ⟨v, vr, e, h1, h2⟩ := RelL_cons.1 (show RelL w ok ι [.d (.sl t) x] us from h)
    simp only [RelV] at h1
    rw [e, RelL_nil.1 h2]
    refine RelL_cons.2 ⟨v, [], rfl, ?_, RelL_nil.2 rfl⟩
    simp only [RelV]
    exact Rz_mono hc hok _ _ _ h1
  | .tr a b, x, us, h => by
    obtain ⟨v, vr, e, h1, h2⟩ := RelL_cons.1 (show RelL w ok ι [.d (.tr a b) x] us from h)
    simp only [RelV] at h1
    rw [e, RelL_nil.1 h2]
    refine RelL_cons.2 ⟨v, [], rfl, ?_, RelL_nil.2 rfl⟩
    simp only [RelV]
    exact Rz_mono hc hok _ _ _ h1

theorem avD_dat {w w' : World} {ok ok' : Nat → Prop} {ι ι' : Nat → Option Value} (hc : ∀ g o v, ok g → w.cell? ⟨g, o, none⟩ = some v → w'.cell? ⟨g, o, none⟩ = some v) (hok : ∀ g, ok g → ok' g) {agg : Bool} {t : Ty} {x : t.den} {u : Value} (h : RelV w ok ι (avD agg t x) u) : RelV w' ok' ι' (avD agg t x) u := by
  unfold avD at h ⊢
  split at h
  · rename_i ha
    rw [if_pos ha]
    simp only [RelV] at h ⊢
    obtain ⟨us, e, h1⟩ := h
    exact ⟨us, e, RelL_dat hc hok t x us h1⟩
  · rename_i ha
    rw [if_neg ha]
    split at h
    · rename_i v hv
      have h1 : RelL w ok ι (unpack t x) [u] := by rw [hv]; exact RelL_cons.2 ⟨u, [], rfl, h, RelL_nil.2 rfl⟩
      have h2 := RelL_dat (ι' := ι') hc hok t x [u] h1
      rw [hv] at h2
      obtain ⟨v', vr, e, h3, h4⟩ := RelL_cons.1 h2
      injection e with e1 e2
      subst e1
      exact h3
    · simp only [RelV]

theorem RzM_dat {w w' : World} {ok ok' : Nat → Prop} {ι ι' : Nat → Option Value} (hc : ∀ g o v, ok g → w.cell? ⟨g, o, none⟩ = some v → w'.cell? ⟨g, o, none⟩ = some v) (hok : ∀ g, ok g → ok' g) {kt : Ty} {va : Bool} {vt : Ty} : ∀ {l : List (kt.den × vt.den)} {es : List MapEntry}, RzM w ok ι kt va vt l es → RzM w' ok' ι' kt va vt l es
  | [], _, h => h
  | _ :: _, _, ⟨e, er, q1, q2, q3, q4⟩ => ⟨e, er, q1, avD_dat hc hok q2, avD_dat hc hok q3, RzM_dat hc hok q4⟩

/-! ### Keys -/
def keyV : (kt : Ty) → kt.den → Value
  | .int k, (n : Int) => .int k n
  | .str, (s : List UInt8) => .string ⟨s.toArray⟩
  | .bool, (b : Bool) => .bool b
  | _, _ => undef

def keyD : Ty → TypeDesc
  | .int k => .int k
  | .str => .string
  | _ => .bool

theorem keyV_rel {w : World} {ok : Nat → Prop} {ι : Nat → Option Value} : ∀ {kt : Ty} (_ : kt.key = true) {q : kt.den} {v : Value}, RelV w ok ι (avD false kt q) v ↔ v = keyV kt q
  | .int k, _, q, v => rel_int
  | .str, _, q, v => by
    show RelV w ok ι (.d .str q) v ↔ _
    simp only [RelV]
    show [v] = _ ↔ _
    simp [keyV]
  | .bool, _, q, v => rel_bool
  | .sl _, h, _, _ => by cases h
  | .pr _ _, h, _, _ => by cases h
  | .un, h, _, _ => by cases h
  | .fk _, h, _, _ => by cases h
  | .ic, h, _, _ => by cases h
  | .fv, h, _, _ => by cases h
  | .tr _ _, h, _, _ => by cases h

theorem keyV_one {w : World} {ok : Nat → Prop} {kt : Ty} (hk : kt.key = true) {q : kt.den} {v : Value} (h : Rz w ok kt q [v]) : v = keyV kt q := by
  cases kt with
  | int k => have h : [v] = [Value.int k q] := h; simpa [keyV] using h
  | str => have h : [v] = [Value.string ⟨List.toArray q⟩] := h; simpa [keyV] using h
  | bool => have h : [v] = [Value.bool q] := h; simpa [keyV] using h
  | sl _ => cases hk
  | pr _ _ => cases hk
  | un => cases hk
  | fk _ => cases hk
  | ic => cases hk
  | fv => cases hk
  | tr _ _ => cases hk

theorem sameNow_key : ∀ {kt : Ty} (_ : kt.key = true) (a b : kt.den), Instr.sameNow (keyD kt) (keyV kt a) (keyV kt b) = some (kt.keq a b)
  | .int k, _, a, b => by simp [Instr.sameNow, keyD, keyV, Ty.keq]
  | .str, _, a, b => by
    simp only [Instr.sameNow, keyD, keyV, Ty.keq]
    rw [beq_toListBytes, toList_mk, toList_mk]
  | .bool, _, a, b => by simp [Instr.sameNow, keyD, keyV, Ty.keq]
  | .sl _, h, _, _ => by cases h
  | .pr _ _, h, _, _ => by cases h
  | .un, h, _, _ => by cases h
  | .fk _, h, _, _ => by cases h
  | .ic, h, _, _ => by cases h
  | .fv, h, _, _ => by cases h
  | .tr _ _, h, _, _ => by cases h

theorem sameBits_key : ∀ {kt : Ty} (_ : kt.key = true) (a : kt.den), Instr.sameBits 10000 (keyV kt a) (keyV kt a) = true
  | .int k, _, a => by simp [Instr.sameBits, keyV]
  | .str, _, a => by simp only [Instr.sameBits, keyV]; rw [beq_toListBytes]; simp
  | .bool, _, a => by simp [Instr.sameBits, keyV]
  | .sl _, h, _ => by cases h
  | .pr _ _, h, _ => by cases h
  | .un, h, _ => by cases h
  | .fk _, h, _ => by cases h
  | .ic, h, _ => by cases h
  | .fv, h, _ => by cases h
  | .tr _ _, h, _ => by cases h

/-- Where a key is found. -/
theorem find_spec {w : World} {ok : Nat → Prop} {ι : Nat → Option Value} {kt : Ty} (hk : kt.key = true) {va : Bool} {vt : Ty} (q : kt.den) : ∀ (l : List (kt.den × vt.den)) (es : List MapEntry) (i : Nat), RzM w ok ι kt va vt l es →
    (lookM kt vt l q = none ∧ Instr.findNow (keyD kt) (keyV kt q) es i = some none ∧ (∀ u, setM kt vt l q u = l ++ [(q, u)]) ∧ delM kt vt l q = l) ∨
    (∃ j x e, l[j]? = some (q, x) ∧ es[j]? = some e ∧ e.key = keyV kt q ∧ RelV w ok ι (avD va vt x) e.val ∧ lookM kt vt l q = some x ∧ Instr.findNow (keyD kt) (keyV kt q) es i = some (some (i + j, e.val)) ∧ (∀ u, setM kt vt l q u = l.set j (q, u)) ∧ delM kt vt l q = l.eraseIdx j)
  | [], es, i, h => by
    have h : es = [] := h
    subst h
    exact .inl ⟨rfl, rfl, fun _ => rfl, rfl⟩
  | p :: r, es, i, h => by
    obtain ⟨e, er, rfl, h1, h2, h3⟩ := h
    have h1 := (keyV_rel hk).1 h1
    have hs := sameNow_key hk q p.1
    rw [← h1] at hs
    by_cases heq : kt.keq q p.1 = true
    · have e' := (keq_iff hk _ _).1 heq
      right
      refine ⟨0, p.2, e, by simp [e'], rfl, by rw [h1, e'], h2, by simp [lookM, heq], ?_, fun u => by simp [setM, heq], by simp [delM, heq]⟩
      simp [Instr.findNow, hs, heq]
    · have hf : kt.keq q p.1 = false := by simpa using heq
      rcases find_spec hk q r er (i + 1) h3 with ⟨q1, q2, q3, q4⟩ | ⟨j, x, e0, q1, q2, q3, q4, q5, q6, q7, q8⟩
      · left
        refine ⟨by simp [lookM, hf, q1], ?_, fun u => by simp [setM, hf, q3], by simp [delM, hf, q4]⟩
        simp [Instr.findNow, hs, hf, q2]
      · right
        refine ⟨j + 1, x, e0, by simpa using q1, by simpa using q2, q3, q4, by simp [lookM, hf, q5], ?_, fun u => by simp [setM, hf, q7], by simp [delM, hf, q8]⟩
        simp only [Instr.findNow, hs, hf, q6]
        rw [show i + 1 + j = i + (j + 1) by omega]

theorem RzM_set {w : World} {ok : Nat → Prop} {ι : Nat → Option Value} {kt : Ty} {va : Bool} {vt : Ty} {q : kt.den} {u : vt.den} {f : MapEntry → MapEntry} : ∀ {l : List (kt.den × vt.den)} {es : List MapEntry} {j : Nat} {x : vt.den}, RzM w ok ι kt va vt l es → l[j]? = some (q, x) →
    (∀ e, RelV w ok ι (avD false kt q) e.key → RelV w ok ι (avD false kt q) (f e).key ∧ RelV w ok ι (avD va vt u) (f e).val) → RzM w ok ι kt va vt (l.set j (q, u)) (es.modify j f)
  | [], _, _, _, _, h, _ => by simp at h
  | p :: r, _, 0, x, ⟨e, er, rfl, h1, h2, h3⟩, hj, hf => by
    have hj : p = (q, x) := by simpa using hj
    subst hj
    obtain ⟨g1, g2⟩ := hf e h1
    exact ⟨f e, er, rfl, g1, g2, h3⟩
  | p :: r, _, j + 1, x, ⟨e, er, rfl, h1, h2, h3⟩, hj, hf => ⟨e, er.modify j f, rfl, h1, h2, RzM_set h3 (by simpa using hj) hf⟩

theorem RzM_push {w : World} {ok : Nat → Prop} {ι : Nat → Option Value} {kt : Ty} {va : Bool} {vt : Ty} {p : kt.den × vt.den} {e : MapEntry} (hk : RelV w ok ι (avD false kt p.1) e.key) (hv : RelV w ok ι (avD va vt p.2) e.val) : ∀ {l : List (kt.den × vt.den)} {es : List MapEntry}, RzM w ok ι kt va vt l es → RzM w ok ι kt va vt (l ++ [p]) (es ++ [e])
  | [], es, h => by
    have h : es = [] := h
    subst h
    exact ⟨e, [], rfl, hk, hv, rfl⟩
  | _ :: r, _, ⟨e0, er, rfl, h1, h2, h3⟩ => ⟨e0, er ++ [e], rfl, h1, h2, RzM_push hk hv h3⟩

theorem RzM_erase {w : World} {ok : Nat → Prop} {ι : Nat → Option Value} {kt : Ty} {va : Bool} {vt : Ty} : ∀ {l : List (kt.den × vt.den)} {es : List MapEntry} (j : Nat), RzM w ok ι kt va vt l es → RzM w ok ι kt va vt (l.eraseIdx j) (es.eraseIdx j)
  | [], es, j, h => by
    have h : es = [] := h
    subst h
    simp
    rfl
  | _ :: r, _, 0, ⟨e0, er, rfl, h1, h2, h3⟩ => by simpa using h3
  | _ :: r, _, j + 1, ⟨e0, er, rfl, h1, h2, h3⟩ => ⟨e0, er.eraseIdx j, rfl, h1, h2, RzM_erase j h3⟩

theorem RzM_length {w : World} {ok : Nat → Prop} {ι : Nat → Option Value} {kt : Ty} {va : Bool} {vt : Ty} : ∀ {l : List (kt.den × vt.den)} {es : List MapEntry}, RzM w ok ι kt va vt l es → es.length = l.length
  | [], es, h => by
    have h : es = [] := h
    subst h
    rfl
  | _ :: r, _, ⟨e0, er, rfl, h1, h2, h3⟩ => by simp [RzM_length h3]

section
variable {X keep : Nat → Prop} {w0 w : World} {ι : Nat → Option Value} {C : Nat → Blk} {P : Program} {TT : Tab}

theorem kTy_key {k : TK} {kt : Ty} (h : kTy k = some kt) : kt.key = true := by
  unfold kTy at h
  split at h <;> first | (injection h with h; subst h; rfl) | cases h

theorem mapTy_sound (hP : TabOK P TT) {tt : Nat} {kt : Ty} {va : Bool} {vt : Ty} (h : mapTy TT tt = some (kt, va, vt)) :
    kt.key = true ∧ ∃ k e te, P.underlying tt = some (.map k e) ∧ P.underlying k = some (keyD kt) ∧ TT e = some te ∧ te.k.agg = va ∧ te.ty = some vt := by
  unfold mapTy at h
  split at h
  · rename_i td htd
    split at h
    · rename_i k e hk
      split at h
      · rename_i tk te htk hte
        split at h
        · rename_i kt' vt' h1 h2
          injection h with h
          injection h with q1 q2
          injection q2 with q2 q3
          subst q1; subst q2; subst q3
          refine ⟨kTy_key h1, k, e, te, ?_, ?_, hte, rfl, h2⟩
          · have := (hP tt td htd).und
            rw [hk] at this
            exact this
          · have := (hP k tk htk).und
            unfold kTy at h1
            split at h1 <;> rename_i hkk <;> first | (cases h1; done) | (injection h1 with h1; subst h1; rw [hkk] at this; exact this)
        · cases h
      · cases h
    · cases h
  · cases h

theorem checkKey_run {kt : Ty} (hk : kt.key = true) {k : Nat} (hu : P.underlying k = some (keyD kt)) (b : Bool) (q : kt.den) : (Instr.checkKey b 10000 k (keyV kt q)).run P w = .ok () w := by
  have e : ∀ n, (Instr.checkKey b (n + 1) k (keyV kt q)).run P w = .ok () w := fun n => by
    cases kt <;> first | (cases hk; done) | simp [Instr.checkKey, run_und hu, keyD, keyV]
  exact e 9999

theorem findKey_run {kt : Ty} {k : Nat} (hu : P.underlying k = some (keyD kt)) {v : Value} {es : List MapEntry} {r : Option (Nat × Value)} (h : Instr.findNow (keyD kt) v es 0 = some r) : (Instr.findKey k v es).run P w = .ok r w := by
  simp [Instr.findKey, run_und hu, h]

theorem keyOf_sound (h : HRel X keep w0 ι C w) {kt : Ty} (hk : kt.key = true) {y : AV} {v : Value} (hy : RelV w (okb X w ι C) ι y v) {q : kt.den} (hq : keyOf C kt y = some q) : v = keyV kt q := by
  unfold keyOf at hq
  split at hq
  · rename_i q' hd
    injection hq with hq
    subst hq
    exact keyV_one hk (dat1_sound h (FrozenOf.refl C) hy hd).2
  · cases hq

theorem cells_one {ok : Nat → Prop} {a : AV} {v : Value} (h : RelV w ok ι a v) (hun : a ≠ .un) (hud : a ≠ .ud) (hag : a.isAg = false) : v.cells.toList = [v] := by
  cases a with
  | ag cs => cases hag
  | un => exact absurd rfl hun
  | ud => exact absurd rfl hud
  | d t x =>
    simp only [RelV] at h
    have := Rz_one t x _ h v (by simp)
    cases v <;> first | rfl | (simp [Value.oneCell'] at this)
  | nl => simp only [RelV] at h; subst h; rfl
  | ub => simp only [RelV] at h; obtain ⟨b, e⟩ := h; subst e; rfl
  | np => simp only [RelV] at h; subst h; rfl
  | mp b => simp only [RelV] at h; obtain ⟨g, _, e⟩ := h; subst e; rfl
  | mnil => simp only [RelV] at h; subst h; rfl
  | pa b => simp only [RelV] at h; obtain ⟨g, n, _, e⟩ := h; subst e; rfl
  | rf b => simp only [RelV] at h; obtain ⟨_, A, n, c, e⟩ := h; subst e; rfl
  | rs b sz off len => simp only [RelV] at h; obtain ⟨A, n, c, A', c', _, _, e, _⟩ := h; subst e; rfl
  | pt b o => simp only [RelV] at h; obtain ⟨g, _, e⟩ := h; subst e; rfl
  | pe b sz i o => simp only [RelV] at h; obtain ⟨g, n, c, _, _, e⟩ := h; subst e; rfl
  | ve cs => simp only [RelV] at h; obtain ⟨g, o, us, e, _⟩ := h; subst e; rfl
  | tp cs => simp only [RelV] at h; obtain ⟨us, e, _⟩ := h; subst e; rfl
  | fn f cs => simp only [RelV] at h; obtain ⟨us, e, _⟩ := h; subst e; rfl
  | fm f cs => simp only [RelV] at h; obtain ⟨us, e, _⟩ := h; subst e; rfl

theorem avD_rel {ι' : Nat → Option Value} {ok ok' : Nat → Prop} {a : AV} {v : Value} (h : RelV w ok ι a v) (hun : a ≠ .un) (hud : a ≠ .ud) {agg : Bool} (hag : a.isAg = agg) {t : Ty} {x : t.den} (hx : Rz w ok' t x v.cells.toList) : RelV w ok' ι' (avD agg t x) v := by
  have hu := RelL_unpack (w := w) (ok := ok') (ι := ι') t x _ hx
  unfold avD
  cases agg with
  | true =>
    rw [if_pos rfl]
    cases a <;> (try (cases hag; done))
    rename_i cs
    simp only [RelV] at h ⊢
    obtain ⟨us, e, h1⟩ := h
    subst e
    exact ⟨us, rfl, hu⟩
  | false =>
    rw [if_neg (by simp)]
    rw [cells_one h hun hud hag] at hu
    split
    · rename_i y hy
      rw [hy] at hu
      obtain ⟨v', vr, e, h1, h2⟩ := RelL_cons.1 hu
      injection e with e1 e2
      subst e1
      exact h1
    · simp only [RelV]

theorem updC_out : ∀ (u : List (Nat × Blk)) (C : Nat → Blk) (k : Nat), memN k (updIds u) = false → updC C u k = C k
  | [], _, _, _ => rfl
  | (j, b) :: r, C, k, h => by
    simp only [updIds, memN, Bool.or_eq_false_iff] at h
    show updC (setC C j b) r k = _
    rw [updC_out r _ k h.2, setC_ne (by intro e; subst e; rw [Nat.beq_refl] at h; cases h.1)]

theorem eqBB_iff : ∀ {a b : Bool}, eqBB a b = true → a = b := by decide

theorem mapRel (h : HRel X keep w0 ι C w) {b : Nat} {v : Value} (hx : RelV w (okb X w ι C) ι (.mp b) v) {kt : Ty} {va : Bool} {vt : Ty} {l : List (kt.den × vt.den)} (hb : C b = .map kt va vt l) :
    ∃ g es ck l', ι b = some (.map (some g)) ∧ v = .map (some g) ∧ w.heap[g]? = some (.map es ck) ∧ l'.Perm l ∧ (l.map fun p => p.1).Nodup ∧ RzM w (okb X w ι C) ι kt va vt l' es.toList ∧ (getObj g).run P w = .ok (.map es ck) w := by
  have hB := h.bl b
  rw [hb] at hB
  obtain ⟨g, es, ck, l', h1, h2, h3, h4, h5, h6⟩ := hB
  simp only [RelV] at hx
  obtain ⟨g', h7, h8⟩ := hx
  rw [h1] at h7
  injection h7 with h7
  injection h7 with h7
  injection h7 with h7
  subst h7
  exact ⟨g, es, ck, l', h1, h8, h2, h3, h4, h6, by simp [getObj, Sem.run, h2]⟩

theorem makeMap_op (h : HRel X keep w0 ι C w) {nb : Nat} (hn : ι nb = none) {t : Nat} {kt : Ty} (hk : kt.key = true) {va : Bool} {vt : Ty} {ku eu : Nat} (hu : P.underlying t = some (.map ku eu)) {r : Option Value} (hr : ∀ v, r = some v → ∃ k n, v = .int k n) :
    ∃ v w', (Instr.makeMap t r).run P w = .ok v w' ∧ Out X keep w0 ι C w nb ⟨.mp nb, [], [.map kt va vt []]⟩ v w' := by
  refine ⟨.map (some w.heap.size), w.alloc (.map #[] 0), ?_, ?_⟩
  · cases r with
    | none => simp [Instr.makeMap]
    | some v =>
      obtain ⟨k, n, rfl⟩ := hr v rfl
      simp [Instr.makeMap, run_und hu, asInt, asIntOf]
  · refine Out.new (v := .map (some w.heap.size)) (h.new hn (World.grownBy_alloc _ _ _) ?_ ?_) ?_
    · intro g q
      unfold bk at q
      rw [setC_self, setI_self] at q
      injection q with q
      have q : w.heap.size = g := q
      omega
    · intro hext
      exact ⟨w.heap.size, #[], 0, [], setI_self _ _ _, heap_new _ _, List.Perm.refl _, List.nodup_nil, hk, rfl⟩
    · simp only [RelV]
      exact ⟨w.heap.size, setI_self _ _ _, rfl⟩

theorem zero_run (hP : TabOK P TT) {e : Nat} {te : TD} (he : TT e = some te) {vt : Ty} (hv : te.ty = some vt) : ∃ z, (zeroValue e).run P w = .ok z w ∧ ∀ {ok : Nat → Prop}, RelV w ok ι (avD te.k.agg vt vt.dflt) z := by
  obtain ⟨i, z, i1, i2, i3, i4, i5, i6, i7⟩ := (hP e te he).ex
  obtain ⟨j1, j2⟩ := i7 vt hv
  refine ⟨z, by simp [zeroValue, typeInfo, i1, i4], fun {ok} => ?_⟩
  have hu := RelL_unpack (w := w) (ok := ok) (ι := ι) vt vt.dflt _ (j2 w ok)
  have hza := (hP e te he).za i z i1 i4
  unfold avD
  cases hg : te.k.agg with
  | true =>
    rw [hg] at hza
    rw [if_pos rfl]
    cases z <;> (try (cases hza; done))
    rename_i cs
    simp only [RelV]
    exact ⟨cs.toList, by simp, hu⟩
  | false =>
    rw [hg] at hza
    rw [if_neg (by simp)]
    have hc : z.cells.toList = [z] := by cases z <;> first | rfl | (cases hza; done)
    rw [hc] at hu
    split
    · rename_i y hy
      rw [hy] at hu
      obtain ⟨v', vr, e1, h1, h2⟩ := RelL_cons.1 hu
      injection e1 with e1 e2
      subst e1
      exact h1
    · simp only [RelV]

theorem look_op (hP : TabOK P TT) (h : HRel X keep w0 ι C w) {tt : Nat} {x y : AV} {vx vy : Value} (hx : RelV w (okb X w ι C) ι x vx) (hy : RelV w (okb X w ι C) ι y vy) {comma : Bool} {r : AV} (hr : mapLook TT tt C x y comma some = some r) :
    ∃ v, (Instr.lookup tt vx vy comma).run P w = .ok v w ∧ RelV w (okb X w ι C) ι r v := by
  unfold mapLook at hr
  split at hr
  · rename_i kt va vt hm
    obtain ⟨hk, k, e, te, hu, hku, hte, hva, hvt⟩ := mapTy_sound hP hm
    subst hva
    obtain ⟨z, hz, hzr⟩ := zero_run (w := w) (ι := ι) hP hte hvt
    split at hr
    · rename_i q hq
      have hy' := keyOf_sound h hk hy hq
      subst hy'
      have pair : ∀ {a : AV} {u : Value} {bo : Bool}, RelV w (okb X w ι C) ι a u → RelV w (okb X w ι C) ι (if comma = true then .tp [a, .d .bool bo] else a) (if comma = true then .tuple #[u, .bool bo] else u) := by
        intro a u bo ha
        cases comma with
        | true =>
          simp only [if_true, RelV]
          exact ⟨[u, .bool bo], rfl, RelL_cons.2 ⟨_, _, rfl, ha, RelL_cons.2 ⟨_, _, rfl, rel_bool.2 rfl, RelL_nil.2 rfl⟩⟩⟩
        | false => simpa using ha
      split at hr
      · injection hr with hr
        subst hr
        simp only [RelV] at hx
        subst hx
        refine ⟨_, ?_, pair hzr⟩
        simp [Instr.lookup, run_und hu, checkKey_run hk hku, findKey_run hku (es := []) (r := none) rfl, hz]
      · rename_i b
        split at hr
        · rename_i kt' va' vt' l hb
          split at hr
          · rename_i h1 h2 _ _
            obtain ⟨h1⟩ := h1
            obtain ⟨h2⟩ := h2
            subst h1; subst h2
            split at hr
            · rename_i hvaa
              have hvaa := eqBB_iff hvaa
              subst hvaa
              injection hr with hr
              subst hr
              obtain ⟨g, es, ck, l', g1, g2, g3, g4, g5, g6, g7⟩ := mapRel (P := P) h hx hb
              subst g2
              show ∃ v, _ ∧ RelV w _ ι (if comma = true then .tp [avD te.k.agg vt' ((lookM kt' vt' l q).getD vt'.dflt), .d .bool (lookM kt' vt' l q).isSome] else avD te.k.agg vt' ((lookM kt' vt' l q).getD vt'.dflt)) v
              rw [← lookM_perm hk g4 g5]
              rcases find_spec hk q l' es.toList 0 g6 with ⟨q1, q2, _, _⟩ | ⟨j, u, e0, q1, q2, q3, q4, q5, q6, _, _⟩
              · rw [q1]
                refine ⟨_, ?_, pair (bo := false) hzr⟩
                simp [Instr.lookup, run_und hu, g7, checkKey_run hk hku, findKey_run hku q2, hz]
              · rw [q5]
                refine ⟨_, ?_, pair (bo := true) (u := e0.val) ?_⟩
                · simp [Instr.lookup, run_und hu, g7, checkKey_run hk hku, findKey_run hku q6]
                · exact q4
            · cases hr
          · cases hr
        · cases hr
      · cases hr
    · cases hr
  · cases hr

/-- A map is turned. -/
theorem map_turn (h : HRel X keep w0 ι C w) {v : Value} {nb b g : Nat} (hι : ι b = some (.map (some g))) {kt : Ty} {va : Bool} {vt : Ty} {l l1 : List (kt.den × vt.den)} (hb : C b = .map kt va vt l) {es es1 : Array MapEntry} {ck ck1 : Nat} (hg : w.heap[g]? = some (.map es ck))
    (hn : ∀ {ok : Nat → Prop} {w' : World}, (∀ a v, RelV w (okb X w ι C) ι a v → RelV w' ok ι a v) → w'.heap[g]? = some (.map es1 ck1) → RelB w' ok ι b (.map kt va vt l1)) :
    Out X keep w0 ι C w nb ⟨.un, [(b, .map kt va vt l1)], []⟩ v { w with heap := w.heap.setIfInBounds g (.map es1 ck1) } := by
  have hlt : g < w.heap.size := (Array.getElem?_eq_some_iff.1 hg).1
  have hbk : bk ι C b = some g := by unfold bk; rw [hb, hι]
  have hbk' : bk ι (setC C b (.map kt va vt l1)) b = some g := by unfold bk; rw [setC_self, hι]
  have := h.step (C' := setC C b (.map kt va vt l1)) (ι' := ι) (w' := { w with heap := w.heap.setIfInBounds g (.map es1 ck1) }) (fun j => j = b) rfl rfl rfl (by simp)
    (fun j hj => setC_ne hj) (fun _ _ q => q) (fun _ _ => rfl) (fun k b' hk q => by
      subst hk
      rw [hbk'] at q
      injection q with q
      subst q
      exact .inr ⟨_, rfl, hbk⟩) (fun k k' b' hk hk' _ _ => hk.trans hk'.symm) (fun b' hb' hk => by
        have hne : g ≠ b' := by rintro rfl; exact hk b rfl hbk
        simp [hne]) (fun hext k hk => by
      subst hk
      rw [setC_self]
      refine hn (fun a v hv => hext.val hv) ?_
      simp [hlt])
  refine ⟨ι, this.1, this.2, ?_, fun _ _ => rfl⟩
  simp only [RelV]

theorem set_op (hP : TabOK P TT) (h : HRel X keep w0 ι C w) {nb tt : Nat} {x y z : AV} {vx vy vz : Value} (hx : RelV w (okb X w ι C) ι x vx) (hy : RelV w (okb X w ι C) ι y vy) (hz : RelV w (okb X w ι C) ι z vz) {e : Eff} (hr : mapSet TT tt C x y z some = some e) :
    ∃ w', (Instr.mapUpdate tt vx vy vz).run P w = .ok () w' ∧ Out X keep w0 ι C w nb e undef w' := by
  unfold mapSet at hr
  split at hr
  · rename_i kt va vt hm
    obtain ⟨hk, k, et, te, hu, hku, hte, hva, hvt⟩ := mapTy_sound hP hm
    split at hr
    · rename_i q u f hq hd
      have hy' := keyOf_sound h hk hy hq
      subst hy'
      split at hr
      · rename_i b
        split at hr
        · rename_i kt' va' vt' l hb
          split at hr
          · rename_i h1 h2 _ _
            obtain ⟨h1⟩ := h1
            obtain ⟨h2⟩ := h2
            subst h1; subst h2
            split at hr
            · rename_i hc
              simp only [Bool.and_eq_true, Bool.not_eq_true'] at hc
              obtain ⟨⟨c1, c2⟩, c3⟩ := hc
              have c1 := eqBB_iff c1
              subst c1
              injection hr with hr
              subst hr
              obtain ⟨⟨H1, F1, E1⟩, D1⟩ := dat_sound h (FrozenOf.refl C) hz hd
              have hb1 : updC C f b = .map kt' va' vt' l := by rw [updC_out f C b c3]; exact hb
              have hun : z ≠ .un := by rintro rfl; simp [dat] at hd
              have hud : z ≠ .ud := by rintro rfl; simp [dat] at hd
              have hzv : RelV w (okb X w ι (updC C f)) ι (avD va' vt' u) vz := avD_rel (ι' := ι) (E1.val hz) hun hud (eqBB_iff c2) D1
              have hx1 := E1.val hx
              obtain ⟨g, es, ck, l', g1, g2, g3, g4, g5, g6, g7⟩ := mapRel (P := P) H1 hx1 hb1
              subst g2
              have hkv : RelV w (okb X w ι (updC C f)) ι (avD false kt' q) (keyV kt' q) := (keyV_rel hk).2 rfl
              rcases find_spec hk q l' es.toList 0 g6 with ⟨q1, q2, q3, _⟩ | ⟨j, u0, e0, q1, q2, q3, q4, q5, q6, q7, _⟩
              · refine ⟨{ w with heap := w.heap.setIfInBounds g (.map (es.push { key := keyV kt' q, val := vz, born := ck }) (ck + 1)) }, ?_, ?_⟩
                · have hlt : g < w.heap.size := (Array.getElem?_eq_some_iff.1 g3).1
                  simp [Instr.mapUpdate, run_und hu, g7, checkKey_run hk hku, findKey_run hku q2, setObj, Sem.run, g3]
                · refine Out.after rfl E1 (map_turn H1 g1 hb1 g3 fun {ok w'} hmono hh => ?_)
                  refine ⟨g, _, _, l' ++ [(q, u)], g1, hh, ?_, (setM_keys hk g5).1, hk, ?_⟩
                  · rw [← q3 u]
                    exact setM_perm hk g4 g5 q u
                  · rw [Array.toList_push]
                    exact RzM_push (hmono _ _ hkv) (hmono _ _ hzv) (RzM_mono hmono _ _ g6)
              · have hsb := sameBits_key hk q
                have hst : (Instr.keyThatStays (((es[j]?).map (·.key)).getD (keyV kt' q)) (keyV kt' q)).run P w = .ok (keyV kt' q) w := by
                  have : es[j]? = some e0 := by simpa using q2
                  simp [Instr.keyThatStays, this, q3, hsb]
                refine ⟨{ w with heap := w.heap.setIfInBounds g (.map (es.modify j fun e => { e with key := keyV kt' q, val := vz }) ck) }, ?_, ?_⟩
                · simp only [Instr.mapUpdate, Sem.run_bind, run_und hu, g7, checkKey_run hk hku, findKey_run hku q6, Result.andThen_ok, Nat.zero_add, hst]
                  simp [setObj, Sem.run, g3]
                · refine Out.after rfl E1 (map_turn H1 g1 hb1 g3 fun {ok w'} hmono hh => ?_)
                  refine ⟨g, _, _, l'.set j (q, u), g1, hh, ?_, (setM_keys hk g5).1, hk, ?_⟩
                  · rw [← q7 u]
                    exact setM_perm hk g4 g5 q u
                  · rw [Array.toList_modify]
                    exact RzM_set (RzM_mono hmono _ _ g6) q1 fun e he => ⟨hmono _ _ hkv, hmono _ _ hzv⟩
            · cases hr
          · cases hr
        · cases hr
      · cases hr
    · cases hr
  · cases hr

theorem del_op (hP : TabOK P TT) (h : HRel X keep w0 ι C w) {nb tt : Nat} {x y : AV} {vx vy : Value} (hx : RelV w (okb X w ι C) ι x vx) (hy : RelV w (okb X w ι C) ι y vy) {e : Eff} (hr : mapDel TT tt C x y some = some e) {ty : TypeId} {ts : Array TypeId} (ht : ts[0]? = some tt) :
    ∃ w', (Builtin.delete_ ts ty #[vx, vy]).run P w = .ok (.tuple #[]) w' ∧ Out X keep w0 ι C w nb e (.tuple #[]) w' := by
  unfold mapDel at hr
  split at hr
  · rename_i kt va vt hm
    obtain ⟨hk, k, et, te, hu, hku, hte, hva, hvt⟩ := mapTy_sound hP hm
    split at hr
    · rename_i q hq
      have hy' := keyOf_sound h hk hy hq
      subst hy'
      split at hr
      · rename_i b
        split at hr
        · rename_i kt' va' vt' l hb
          split at hr
          · rename_i h1 h2 _ _
            obtain ⟨h1⟩ := h1
            obtain ⟨h2⟩ := h2
            subst h1; subst h2
            split at hr
            · rename_i c1
              have c1 := eqBB_iff c1
              subst c1
              injection hr with hr
              subst hr
              obtain ⟨g, es, ck, l', g1, g2, g3, g4, g5, g6, g7⟩ := mapRel (P := P) h hx hb
              subst g2
              have t0 : (#[Value.map (some g), keyV kt' q] : Array Value)[0]? = some (.map (some g)) := rfl
              have t1 : (#[Value.map (some g), keyV kt' q] : Array Value)[1]? = some (keyV kt' q) := rfl
              rcases find_spec hk q l' es.toList 0 g6 with ⟨q1, q2, _, q4⟩ | ⟨j, u0, e0, q1, q2, q3, q4, q5, q6, _, q8⟩
              · refine ⟨{ w with heap := w.heap.setIfInBounds g (.map es ck) }, ?_, ?_⟩
                · simp only [Builtin.delete_, ht, t0, t1, Sem.run_bind, run_und hu, g7, checkKey_run hk hku, findKey_run hku q2, Result.andThen_ok]
                  simp [setObj, Sem.run, g3]
                · refine map_turn h g1 hb g3 fun {ok w'} hmono hh => ?_
                  refine ⟨g, _, _, l', g1, hh, ?_, delM_keys hk g5, hk, RzM_mono hmono _ _ g6⟩
                  have := delM_perm hk g4 g5 q
                  rw [q4] at this
                  exact this
              · refine ⟨{ w with heap := w.heap.setIfInBounds g (.map (es.eraseIdxIfInBounds j) ck) }, ?_, ?_⟩
                · simp only [Builtin.delete_, ht, t0, t1, Sem.run_bind, run_und hu, g7, checkKey_run hk hku, findKey_run hku q6, Result.andThen_ok, Nat.zero_add]
                  simp [setObj, Sem.run, g3]
                · refine map_turn h g1 hb g3 fun {ok w'} hmono hh => ?_
                  refine ⟨g, _, _, l'.eraseIdx j, g1, hh, ?_, delM_keys hk g5, hk, ?_⟩
                  · rw [← q8]
                    exact delM_perm hk g4 g5 q
                  · have e1 : (es.eraseIdxIfInBounds j).toList = es.toList.eraseIdx j := by
                      have hj : j < es.size := by
                        have := (List.getElem?_eq_some_iff.1 q2).1
                        simpa using this
                      simp [Array.eraseIdxIfInBounds, hj]
                    rw [e1]
                    exact RzM_erase j (RzM_mono hmono _ _ g6)
            · cases hr
          · cases hr
        · cases hr
      · cases hr
    · cases hr
  · cases hr

theorem Frz.append {C0 : Nat → Blk} {f g : List (Nat × Blk)} (h : Frz X keep w0 ι C C0 w f) (k : Frz X keep w0 ι C (updC C0 f) w g) : Frz X keep w0 ι C C0 w (f ++ g) := by
  unfold Frz
  rw [updC_append]
  exact ⟨k.1, k.2.1, h.2.2.trans k.2.2⟩

theorem RelV_tr {ok : Nat → Prop} {a b : Ty} {x : T2 (a.den × b.den)} {v : Value} : RelV w ok ι (.d (.tr a b) x) v ↔ RzT w ok (fun p us => ∃ u1 vl vr u2, us = u1 ++ vl :: vr :: u2 ∧ Rz w ok a p.1 u1 ∧ Rz w ok b p.2 u2 ∧ u1.length = a.size) a.size x v := by
  simp only [RelV]
  constructor
  · rintro ⟨v', e, h⟩
    injection e with e
    subst e
    exact h
  · exact fun h => ⟨v, rfl, h⟩

/-- A node of a tree is looked into. -/
theorem tree_cells {ok : Nat → Prop} {a b : Ty} {x : T2 (a.den × b.den)} {v : Value} (h : RelV w ok ι (.d (.tr a b) x) v) (hn : ¬ x.isNil = true) : RelV w ok ι (.ve (cellsT a b x)) v ∧ ∃ g, v = .pointer (some g) := by
  rw [RelV_tr] at h
  cases x with
  | nil => exact (hn rfl).elim
  | nd x l r =>
    obtain ⟨g, us, vl, vr, e, h1, ⟨u1, vl', vr', u2, e2, h2, h3, h4⟩, h5, h6, h7, h8, h9⟩ := h
    subst e
    refine ⟨?_, _, rfl⟩
    simp only [RelV]
    refine ⟨g, 0, us, rfl, h1, ?_, fun j u hu => by rw [Nat.zero_add]; exact h9 j u hu⟩
    subst e2
    have e5 : vl' = vl := by
      rw [List.getElem?_append_right (by omega), ← h4, Nat.sub_self] at h5
      simpa using h5
    have e6 : vr' = vr := by
      rw [List.getElem?_append_right (by omega), show a.size + 1 - u1.length = 1 by omega] at h6
      simpa using h6
    subst e5; subst e6
    exact RelL_append (RelL_unpack a x.1 u1 h2) (RelL_cons.2 ⟨_, _, rfl, RelV_tr.2 h7, RelL_cons.2 ⟨_, _, rfl, RelV_tr.2 h8, RelL_unpack b x.2 u2 h3⟩⟩)

theorem node_op (h : HRel X keep w0 ι C w) {nb e : Nat} {a b : Ty} {cs : List AV} {vx : Value} (hx : RelV w (okb X w ι C) ι (.ag cs) vx) {t : T2 (a.den × b.den)} {f : List (Nat × Blk)} (hn : nodeC C a b cs = some (t, f)) :
    ∃ v w', (Instr.box e vx).run P w = .ok v w' ∧ Out X keep w0 ι C w nb ⟨.d (.tr a b) t, f, []⟩ v w' := by
  simp only [RelV] at hx
  obtain ⟨us, rfl, hr⟩ := hx
  unfold nodeC at hn
  split at hn
  · rename_i x l r rest f0 h0
    obtain ⟨F0, u1, u2, e0, d0, r0⟩ := pack_sound a C cs us h (FrozenOf.refl C) hr x _ f0 h0
    split at hn
    · rename_i tl f1 tr f2 y f3 h1 h2 h3
      injection hn with hn
      injection hn with q1 q2
      subst q1; subst q2
      obtain ⟨vl, u3, e3, g1, r1⟩ := RelL_cons.1 r0
      obtain ⟨F1, d1⟩ := dat1_sound F0.1 F0.2.1 g1 h1
      obtain ⟨vr, u4, e4, g2, r2⟩ := RelL_cons.1 (F1.2.2.vals r1)
      obtain ⟨F2, d2⟩ := dat1_sound F1.1 F1.2.1 g2 h2
      obtain ⟨F3, u5, u6, e5, d3, r3⟩ := pack_sound b _ _ u4 F2.1 F2.2.1 (F2.2.2.vals r2) y _ f3 h3
      have e6 : u6 = [] := RelL_nil.1 r3
      subst e6
      have F23 := F2.append F3
      have F123 := F1.append F23
      have FF := F0.append F123
      have hC : updC (updC (updC (updC C f0) f1) f2) f3 = updC C (f0 ++ (f1 ++ (f2 ++ f3))) := by simp only [updC_append]
      have hus : us = u1 ++ vl :: vr :: u5 := by rw [e0, e3, e4, e5, List.append_nil]
      have hlen := Rz_length a x u1 d0
      refine ⟨.pointer (some ⟨w.heap.size, 0, none⟩), w.alloc (.cells us.toArray e), by simp [Instr.box, newVar, newRow, Value.cells], ?_⟩
      refine Out.after0 rfl FF.2.2 ?_
      have hg := World.grownBy_alloc w (.cells us.toArray e) none
      obtain ⟨H, E⟩ := FF.1.step (C' := updC C (f0 ++ (f1 ++ (f2 ++ f3)))) (ι' := ι) (w' := w.alloc (.cells us.toArray e)) (fun _ => False) hg.os hg.tape hg.output hg.size (fun _ _ => rfl) (fun _ _ q => q) (fun _ _ => rfl)
        (fun _ _ q => q.elim) (fun _ _ _ q => q.elim) (fun b' hb' _ => hg.block b' hb' (by simp)) (fun _ _ q => q.elim)
      refine ⟨ι, H, E, ?_, fun _ _ => rfl⟩
      rw [hC] at d3
      have hok : okb X (w.alloc (.cells us.toArray e)) ι (updC C (f0 ++ (f1 ++ (f2 ++ f3)))) w.heap.size := by
        refine ⟨(Array.getElem?_eq_some_iff.1 (heap_new w (.cells us.toArray e))).1, fun ho => ?_, fun hX => ?_⟩
        · have := FF.1.lt ho
          omega
        · have := FF.1.xl _ hX
          have := FF.1.fr.size
          omega
      have t0 := E.data ((show Ext X ι (updC C f0) w ι (updC C (f0 ++ (f1 ++ (f2 ++ f3)))) w by rw [updC_append]; exact F123.2.2).data d0)
      have t1 : Rz _ _ (.tr a b) tl [vl] := E.data ((show Ext X ι (updC (updC C f0) f1) w ι (updC C (f0 ++ (f1 ++ (f2 ++ f3)))) w by rw [updC_append, updC_append]; exact F23.2.2).data d1)
      have t2 : Rz _ _ (.tr a b) tr [vr] := E.data ((show Ext X ι (updC (updC (updC C f0) f1) f2) w ι (updC C (f0 ++ (f1 ++ (f2 ++ f3)))) w by rw [updC_append, updC_append, updC_append]; exact F3.2.2).data d2)
      have t3 := E.data d3
      rw [RelV_tr]
      refine ⟨w.heap.size, us, vl, vr, rfl, hok, ⟨u1, vl, vr, u5, hus, t0, t3, hlen⟩, ?_, ?_, (RelV_tr (ι := ι)).1 t1, (RelV_tr (ι := ι)).1 t2, fun j u hu => ?_⟩
      · rw [hus, List.getElem?_append_right (by omega), ← hlen, Nat.sub_self]
        rfl
      · rw [hus, List.getElem?_append_right (by omega), show a.size + 1 - u1.length = 1 by omega]
        rfl
      · have : (w.alloc (.cells us.toArray e)).heap[w.heap.size]? = some (.cells us.toArray e) := heap_new _ _
        simp only [World.cell?, this]
        simpa using hu
    · cases hn
  · cases hn

theorem sameAddr_same (a : Addr) : (sameAddr a a).run P w = .ok true w := run_sameAddr_same w a

theorem eqPM_sound (hP : TabOK P TT) {ok : Nat → Prop} {tt : Nat} {a b : AV} {va vb : Value} (ha : RelV w ok ι a va) (hb : RelV w ok ι b vb) {r : Bool} (h : eqPM TT (kindOf TT tt) a b = some r) (n : Nat) :
    (Op.equalIn (n + 1) tt va vb).run P w = .ok r w := by
  have hu : ∀ k, kindOf TT tt = k → k ≠ .oth → UndOK P tt k := by
    intro k hk hne
    unfold kindOf at hk
    split at hk
    · rename_i td htd
      rw [← hk]
      exact (hP tt td htd).und
    · exact (hne hk.symm).elim
  unfold eqPM at h
  split at h
  case h_6 =>
    rename_i e b1 o1 b2 o2 hk
    have hu : P.underlying tt = some (.pointer e) := hu _ hk (by intro q; cases q)
    split at h
    · rename_i hc
      simp only [Bool.and_eq_true] at hc
      obtain ⟨⟨c1, c2⟩, c3⟩ := hc
      have c1 := Nat.eq_of_beq_eq_true c1
      have c2 := Nat.eq_of_beq_eq_true c2
      subst c1; subst c2
      injection h with h
      subst h
      simp only [RelV] at ha hb
      obtain ⟨g, h1, h2⟩ := ha
      obtain ⟨g', h3, h4⟩ := hb
      rw [h1] at h3
      injection h3 with h3
      injection h3 with h3
      injection h3 with h3
      injection h3 with h3
      subst h2; subst h4; subst h3
      have hsz : 0 < sizeT TT e := Nat.le_of_ble_eq_true c3
      unfold sizeT at hsz
      split at hsz
      · rename_i te hte
        have h5 := run_size (w := w) hP hte
        have hne : ¬ te.size = 0 := by omega
        simp only [Op.equalIn, Sem.run_bind, run_und hu, Result.andThen_ok, h5]
        simp [hne, sameAddr_same]
      · omega
    · cases h
  case h_10 =>
    rename_i e ta tb x hk
    have hu : P.underlying tt = some (.pointer e) := hu _ hk (by intro q; cases q)
    injection h with h
    subst h
    simp only [RelV] at ha hb
    subst hb
    obtain ⟨v, hv, ht⟩ := ha
    injection hv with hv
    subst hv
    cases x with
    | nil =>
      have ht : va = .pointer none := ht
      subst ht
      simp [Op.equalIn, run_und hu, T2.isNil]
    | nd x l r =>
      obtain ⟨g, _, _, _, ht, _⟩ := ht
      subst ht
      simp [Op.equalIn, run_und hu, T2.isNil]
  all_goals first
    | (rename_i hk
       have hu := hu _ hk (by intro q; cases q)
       injection h with h
       subst h
       simp only [RelV] at ha hb
       try obtain ⟨_, _, rfl⟩ := ha
       try obtain ⟨_, _, rfl⟩ := hb
       try obtain ⟨_, _, _, _, _, rfl⟩ := ha
       try obtain ⟨_, _, _, rfl, _⟩ := ha
       try subst ha
       try subst hb
       simp [Op.equalIn, run_und (show P.underlying tt = some _ from hu)])
    | cases h
theorem eqGuard_ptr {op : BinOp} {t : TypeId} {x y : Operand} {A B : Option Addr} : (eqGuard op t x y (.pointer A) (.pointer B)).run P w = .ok () w := by
  unfold eqGuard
  split <;> simp
theorem eqGuard_map {op : BinOp} {t : TypeId} {x y : Operand} {A B : Option Nat} : (eqGuard op t x y (.map A) (.map B)).run P w = .ok () w := by
  unfold eqGuard
  split <;> simp

theorem eqPM_vals {ok : Nat → Prop} {k : TK} {a b : AV} {va vb : Value} (ha : RelV w ok ι a va) (hb : RelV w ok ι b vb) {r : Bool} (h : eqPM TT k a b = some r) : (∃ A B, va = .pointer A ∧ vb = .pointer B) ∨ ∃ A B, va = .map A ∧ vb = .map B := by
  unfold eqPM at h
  split at h
  case h_11 => cases h
  case h_10 =>
    simp only [RelV] at ha hb
    subst hb
    obtain ⟨v, hv, ht⟩ := ha
    injection hv with hv
    subst hv
    obtain ⟨p, rfl⟩ := RzT_ptr _ _ ht
    exact .inl ⟨_, _, rfl, rfl⟩
  all_goals
    simp only [RelV] at ha hb
    try obtain ⟨_, _, rfl⟩ := ha
    try obtain ⟨_, _, rfl⟩ := hb
    try obtain ⟨_, _, _, _, _, rfl⟩ := ha
    try obtain ⟨_, _, _, rfl, _⟩ := ha
    try subst ha
    try subst hb
    first | exact .inl ⟨_, _, rfl, rfl⟩ | exact .inr ⟨_, _, rfl, rfl⟩

end
end Go.Proofs.Rf
/- Rf, part jb: structs and arrays held against each other. -/
namespace Go.Proofs.Rf
open Go Go.RowKit
section
variable {w : World} {ι : Nat → Option Value} {P : Program} {TT : Tab}

theorem kindOf_und (hP : TabOK P TT) {tt : Nat} {k : TK} (hk : kindOf TT tt = k) (hne : k ≠ .oth) : ∃ td, TT tt = some td ∧ td.k = k ∧ UndOK P tt k := by
  unfold kindOf at hk
  split at hk
  · rename_i td htd
    refine ⟨td, htd, hk, ?_⟩
    rw [← hk]
    exact (hP tt td htd).und
  · exact (hne hk.symm).elim

mutual
theorem eqV_sound (hP : TabOK P TT) {ok : Nat → Prop} : ∀ (n tt : Nat) (a b : AV) (va vb : Value) (r : Bool), eqV TT n tt a b = some r → RelV w ok ι a va → RelV w ok ι b vb → ∀ d, (Op.equalIn (d + n) tt va vb).run P w = .ok r w
  | 0, _, _, _, _, _, _, h, _, _, _ => by cases h
  | n + 1, tt, a, b, va, vb, r, h, ha, hb, d => by
    simp only [eqV] at h
    split at h
    · rename_i k hk
      obtain ⟨td, _, _, hu⟩ := kindOf_und hP hk (by intro q; cases q)
      have hu : P.underlying tt = some (.int k) := hu
      split at h
      · rename_i j x j' y
        split at h
        · rename_i hj
          have hj := ikEq_eq hj
          subst hj
          injection h with h
          rw [rel_int] at ha hb
          subst ha; subst hb; subst h
          simp [Op.equalIn, run_und hu]
        · cases h
      · cases h
    · rename_i hk
      obtain ⟨td, _, _, hu⟩ := kindOf_und hP hk (by intro q; cases q)
      have hu : P.underlying tt = some .bool := hu
      split at h
      · injection h with h
        rw [rel_bool] at ha hb
        subst ha; subst hb; subst h
        simp [Op.equalIn, run_und hu]
      · cases h
    · rename_i hk
      obtain ⟨td, _, _, hu⟩ := kindOf_und hP hk (by intro q; cases q)
      have hu : P.underlying tt = some .string := hu
      split at h
      · injection h with h
        rw [rel_str] at ha hb
        subst ha; subst hb; subst h
        simp [Op.equalIn, run_und hu, beq_toListBytes]
      · cases h
    · rename_i e hk
      rw [← hk] at h
      exact eqPM_sound hP ha hb h (d + n)
    · rename_i fs hk
      obtain ⟨td, htd, _, fields, hu, hfs⟩ := kindOf_und hP hk (by intro q; cases q)
      split at h
      · rename_i cs ds
        split at h
        · rename_i hc
          unfold cmpT at hc
          rw [htd] at hc
          obtain ⟨hn, hsi⟩ := ((hP tt td htd).cm hc).1 fields hu
          simp only [RelV] at ha hb
          obtain ⟨us, rfl, h1⟩ := ha
          obtain ⟨vs, rfl, h2⟩ := hb
          have hfo : P.fieldsOf tt = fields := by simp [Program.fieldsOf, hu]
          rw [show d + (n + 1) = (d + n) + 1 from rfl, run_equalIn_struct w (d + n) tt us.toArray vs.toArray (by rw [hfo]; exact hu) hsi, hfo]
          exact eqF_sound hP n fs cs ds us vs r h h1 h2 d fields.toList hfs hn
        · cases h
      · cases h
    · rename_i m e hk
      obtain ⟨td, htd, _, hu⟩ := kindOf_und hP hk (by intro q; cases q)
      have hu : P.underlying tt = some (.array m e) := hu
      split at h
      · rename_i cs ds
        split at h
        · rename_i hs
          obtain ⟨te, hte⟩ := Option.isSome_iff_exists.1 hs
          obtain ⟨i, z, i1, i2, _⟩ := (hP e te hte).ex
          simp only [RelV] at ha hb
          obtain ⟨us, rfl, h1⟩ := ha
          obtain ⟨vs, rfl, h2⟩ := hb
          rw [show d + (n + 1) = (d + n) + 1 from rfl, run_equalIn_array w (d + n) us.toArray vs.toArray hu i1]
          have hce : P.cellsOf e = sizeT TT e := by simp [Program.cellsOf, i1, sizeT, hte, i2]
          rw [hce, List.range_eq_range']
          exact eqA_sound hP n e m 0 cs ds us vs r h h1 h2 d
        · cases h
      · cases h
    · cases h
theorem eqF_sound (hP : TabOK P TT) {ok : Nat → Prop} : ∀ (n : Nat) (fs : List (Nat × Nat)) (cs ds : List AV) (us vs : List Value) (r : Bool), eqF TT n fs cs ds = some r → RelL w ok ι cs us → RelL w ok ι ds vs → ∀ (d : Nat) (fields : List Field),
    fields.map (fun f => (f.offset, f.type)) = fs → (fields.all fun f => f.name != "_") = true → (Op.eqFields (d + n) us.toArray vs.toArray fields).run P w = .ok r w
  | 0, _, _, _, _, _, _, h, _, _, _, _, _, _ => by cases h
  | n + 1, [], cs, ds, us, vs, r, h, _, _, d, fields, hf, _ => by
    have : fields = [] := List.map_eq_nil_iff.1 hf
    subst this
    simp only [eqF] at h
    injection h with h
    subst h
    simp [Op.eqFields]
  | n + 1, p :: q, cs, ds, us, vs, r, h, h1, h2, d, fields, hf, hn => by
    cases fields with
    | nil => cases hf
    | cons f fl =>
      simp only [List.map_cons, List.cons.injEq] at hf
      obtain ⟨hf1, hf2⟩ := hf
      simp only [List.all_cons, Bool.and_eq_true] at hn
      have hnm : f.name ≠ "_" := by simpa using hn.1
      simp only [eqF] at h
      split at h
      · rename_i x y hx hy
        split at h
        · rename_i u v hu hv
          injection h with h
          subst h
          rw [← hf1] at hx hy hu
          obtain ⟨vx, r1, r2⟩ := part_sound hP h1 hx
          obtain ⟨vy, r3, r4⟩ := part_sound hP h2 hy
          have e1 := eqV_sound hP n f.type x y vx vy u hu r2 r4 (d + 1)
          have e2 := eqF_sound hP n q cs ds us vs v hv h1 h2 (d + 1) fl hf2 hn.2
          rw [show d + 1 + n = d + (n + 1) by omega] at e1 e2
          have r1 : (part f.type us.toArray f.offset).run P w = .ok vx w := r1
          have r3 : (part f.type vs.toArray f.offset).run P w = .ok vy w := r3
          simp only [Op.eqFields, hnm, ne_eq, not_false_eq_true, if_true, Sem.run_bind, r1, r3, e1, Result.andThen_ok, Sem.run_ite]
          cases u
          · simp
          · simpa using e2
        · cases h
      · cases h
theorem eqA_sound (hP : TabOK P TT) {ok : Nat → Prop} : ∀ (n e m i : Nat) (cs ds : List AV) (us vs : List Value) (r : Bool), eqA TT n e m i cs ds = some r → RelL w ok ι cs us → RelL w ok ι ds vs → ∀ (d : Nat),
    (Op.eqItems (d + n) e (sizeT TT e) us.toArray vs.toArray (List.range' i m)).run P w = .ok r w
  | 0, _, _, _, _, _, _, _, _, h, _, _, _ => by cases h
  | n + 1, e, 0, i, cs, ds, us, vs, r, h, _, _, d => by
    simp only [eqA] at h
    injection h with h
    subst h
    simp [Op.eqItems]
  | n + 1, e, m + 1, i, cs, ds, us, vs, r, h, h1, h2, d => by
    simp only [eqA] at h
    split at h
    · rename_i x y hx hy
      split at h
      · rename_i u v hu hv
        injection h with h
        subst h
        obtain ⟨vx, r1, r2⟩ := part_sound hP h1 hx
        obtain ⟨vy, r3, r4⟩ := part_sound hP h2 hy
        have e1 := eqV_sound hP n e x y vx vy u hu r2 r4 (d + 1)
        have e2 := eqA_sound hP n e m (i + 1) cs ds us vs v hv h1 h2 (d + 1)
        rw [show d + 1 + n = d + (n + 1) by omega] at e1 e2
        rw [List.range'_succ]
        simp only [Op.eqItems, Sem.run_bind, r1, r3, e1, Result.andThen_ok, Sem.run_ite]
        cases u
        · simp
        · simpa using e2
      · cases h
    · cases h
end

theorem eqAny_sound (hP : TabOK P TT) {ok : Nat → Prop} {tt : Nat} {a b : AV} {va vb : Value} {op : BinOp} {x y : Operand} (ha : RelV w ok ι a va) (hb : RelV w ok ι b vb) {r : Bool} (h : eqAny TT tt a b = some r) :
    (eqGuard op tt x y va vb).run P w = .ok () w ∧ (Op.equal tt va vb).run P w = .ok r w ∧ ((∃ A B, va = .pointer A ∧ vb = .pointer B) ∨ (∃ A B, va = .map A ∧ vb = .map B) ∨ ∃ A B, va = .agg A ∧ vb = .agg B) := by
  unfold eqAny at h
  split at h
  · rename_i q hq
    injection h with h
    subst h
    have h1 : (Op.equal tt va vb).run P w = .ok q w := eqPM_sound hP ha hb hq 9999
    rcases eqPM_vals ha hb hq with ⟨A, B, rfl, rfl⟩ | ⟨A, B, rfl, rfl⟩
    · exact ⟨eqGuard_ptr, h1, .inl ⟨_, _, rfl, rfl⟩⟩
    · exact ⟨eqGuard_map, h1, .inr (.inl ⟨_, _, rfl, rfl⟩)⟩
  · have key : cmpT TT tt = true → eqV TT 64 tt a b = some r → (∃ A, va = .agg A) → (∃ B, vb = .agg B) → (eqGuard op tt x y va vb).run P w = .ok () w ∧ (Op.equal tt va vb).run P w = .ok r w ∧ ((∃ A B, va = .pointer A ∧ vb = .pointer B) ∨ (∃ A B, va = .map A ∧ vb = .map B) ∨ ∃ A B, va = .agg A ∧ vb = .agg B) := by
      rintro hc he ⟨A, rfl⟩ ⟨B, rfl⟩
      unfold cmpT at hc
      split at hc
      · rename_i td htd
        have hg := ((hP tt td htd).cm hc).2
        exact ⟨run_eqGuard_agg w op tt x y A B hg, eqV_sound hP 64 tt a b _ _ r he ha hb 9936, .inr (.inr ⟨_, _, rfl, rfl⟩)⟩
      · cases hc
    have ags : ∀ {n : Nat} {fs : TK}, kindOf TT tt = fs → fs.agg = true → eqV TT (n + 1) tt a b = some r → (∃ A, va = .agg A) ∧ ∃ B, vb = .agg B := by
      intro n fs hk hg he
      simp only [eqV] at he
      rw [hk] at he
      cases fs <;> (try (cases hg; done)) <;> simp only at he <;> split at he <;> (try (cases he; done))
      · simp only [RelV] at ha hb
        obtain ⟨us, rfl, _⟩ := ha
        obtain ⟨vs, rfl, _⟩ := hb
        exact ⟨⟨_, rfl⟩, ⟨_, rfl⟩⟩
      · simp only [RelV] at ha hb
        obtain ⟨us, rfl, _⟩ := ha
        obtain ⟨vs, rfl, _⟩ := hb
        exact ⟨⟨_, rfl⟩, ⟨_, rfl⟩⟩
    split at h
    · rename_i fs hk
      split at h
      · rename_i hc
        obtain ⟨q1, q2⟩ := ags hk rfl h
        exact key hc h q1 q2
      · cases h
    · rename_i m e hk
      split at h
      · rename_i hc
        obtain ⟨q1, q2⟩ := ags hk rfl h
        exact key hc h q1 q2
      · cases h
    · cases h

theorem eqNil_sound (hP : TabOK P TT) {ok : Nat → Prop} {tt : Nat} {op : BinOp} {a b : AV} {va vb : Value} {x y : Operand} (ha : RelV w ok ι a va) (hb : RelV w ok ι b vb) {r : Bool} (h : eqNil TT tt op a b = some r) :
    ∃ v, (do eqGuard op tt x y va vb; binOp op tt va vb : Sem Value).run P w = .ok v w ∧ RelV w ok ι (.d .bool r) v := by
  unfold eqNil at h
  split at h
  · refine ⟨.bool r, ?_, rel_bool.2 rfl⟩
    obtain ⟨g, h1, hv⟩ := eqAny_sound (op := .eql) (x := x) (y := y) hP ha hb h
    rcases hv with ⟨A, B, rfl, rfl⟩ | ⟨A, B, rfl, rfl⟩ | ⟨A, B, rfl, rfl⟩ <;> simp only [Sem.run_bind, g, Result.andThen_ok, binOp, h1, Sem.run_pure]
  · split at h
    · rename_i q hq
      injection h with h
      subst h
      refine ⟨.bool (!q), ?_, rel_bool.2 rfl⟩
      obtain ⟨g, h1, hv⟩ := eqAny_sound (op := .neq) (x := x) (y := y) hP ha hb hq
      rcases hv with ⟨A, B, rfl, rfl⟩ | ⟨A, B, rfl, rfl⟩ | ⟨A, B, rfl, rfl⟩ <;> simp only [Sem.run_bind, g, Result.andThen_ok, binOp, h1, Sem.run_pure]
    · cases h
  · cases h
end
end Go.Proofs.Rf
/- Rf, part jc: unsafe pointers, a slice's data as a string, a string appended to bytes. -/
namespace Go.Proofs.Rf
open Go Go.RowKit
section
variable {X keep : Nat → Prop} {w0 w : World} {ι : Nat → Option Value} {C : Nat → Blk} {P : Program} {TT : Tab}

theorem RzL_bytes {ok : Nat → Prop} : ∀ {xs : List Int} {cs : List Value}, RzL (Rz w ok (.int .u8)) xs cs → cs = xs.map (Value.int .u8)
  | [], _, h => h
  | x :: r, _, ⟨us, vr, e, h1, h2⟩ => by
    have h1 : us = [.int .u8 x] := h1
    rw [e, h1, RzL_bytes h2]
    rfl

theorem unsf_nat {R : Type} (C : Nat → Blk) (k k' : TK) (y : AV) (K : AV → Option R) : unsf TT C k k' y K = (unsf TT C k k' y some).bind K := by
  unfold unsf
  split
  · split
    · split <;> rfl
    · rfl
  · split
    · split <;> rfl
    · rfl
  · rfl

theorem sdata_nat {R : Type} (C : Nat → Blk) (x : AV) (K : AV → Option R) : sdata C x K = (sdata C x some).bind K := by
  unfold sdata
  split
  · rfl
  · split
    · split <;> rfl
    · rfl
  · rfl

theorem ustr_nat {R : Type} (tt : Nat) (C : Nat → Blk) (x y : AV) (K : Eff → Option R) : ustr TT tt C x y K = (ustr TT tt C x y some).bind K := by
  unfold ustr
  split
  · split
    · split
      · split
        · split <;> rfl
        · rfl
      · rfl
    · rfl
  · split <;> rfl
  · rfl

theorem appStr_nat {R : Type} (tt' e : Nat) (te : TD) (C : Nat → Blk) (nb : Nat) (x y : AV) (K : Eff → Option R) : appStr TT tt' e te C nb x y K = (appStr TT tt' e te C nb x y some).bind K := by
  unfold appStr
  split
  · split
    · split
      · split <;> rfl
      · split
        · split
          · split <;> rfl
          · rfl
        · rfl
      · rfl
    · rfl
  · rfl

theorem sizeT_cells (hP : TabOK P TT) {e : Nat} (h : (TT e).isSome = true) : ∃ i z te, TT e = some te ∧ P.info? e = some i ∧ i.size = sizeT TT e ∧ P.cellsOf e = sizeT TT e ∧ i.zero = some z ∧ te.size = sizeT TT e := by
  obtain ⟨te, hte⟩ := Option.isSome_iff_exists.1 h
  obtain ⟨i, z, i1, i2, i3, i4, _⟩ := (hP e te hte).ex
  have hs : sizeT TT e = te.size := by simp [sizeT, hte]
  exact ⟨i, z, te, hte, i1, by rw [hs, i2], by simp [Program.cellsOf, i1, hs, i2], i4, hs.symm⟩

/-- A variable lies where it lies. -/
theorem liesAt_one {t : Nat} (hc : P.cellsOf t ≠ 0) : liesAt P P.depth t 1 0 t 1 = true := by
  have hd : P.depth = (2 * (P.types.size + Made.depth) + 1) + 1 := rfl
  rw [hd]
  simp only [liesAt, Bool.or_eq_true]
  left
  rw [hd]
  simp [rowAt, hc, sameLayout]

theorem unsf_op (hP : TabOK P TT) (h : HRel X keep w0 ι C w) {src dst : Nat} {ts td : TD} (hs : TT src = some ts) (hd : TT dst = some td) {y r : AV} {vy : Value} (hy : RelV w (okb X w ι C) ι y vy)
    (hu : unsf TT C ts.k td.k y some = some r) : (convert src dst vy).run P w = .ok vy w ∧ RelV w (okb X w ι C) ι r vy := by
  have us := (hP src ts hs).und
  have ud := (hP dst td hd).und
  unfold unsf at hu
  split at hu
  · rename_i e b o h1 h2
    rw [h1] at us
    rw [h2] at ud
    split at hu
    · rename_i be cs hC
      split at hu
      · rename_i hc
        simp only [Bool.and_eq_true] at hc
        injection hu with hu
        subst hu
        obtain ⟨i, z, te, _, i1, i2, _, _, _⟩ := sizeT_cells hP hc.1.1
        obtain ⟨g, cur, g1, g2, g3⟩ := box_cells h hC
        have hy0 := hy
        simp only [RelV] at hy
        obtain ⟨g', q1, q2⟩ := hy
        rw [q1] at g1
        injection g1 with g1
        injection g1 with g1
        injection g1 with g1
        injection g1 with g1 _
        subst g1
        subst q2
        refine ⟨Lib.run_to_unsafe (e := be) (cells := cs.length) w ⟨g', o, none⟩ us ud i1 ?_ ?_ (Nat.le_of_ble_eq_true hc.2), hy0⟩
        · rw [i2]
          have := Nat.le_of_ble_eq_true hc.1.2
          omega
        · have := RelL_length g3
          simp [World.shape?, g2, this]
      · cases hu
    · cases hu
  · rename_i e b h1 h2
    rw [h1] at us
    rw [h2] at ud
    split at hu
    · rename_i be cs hC
      split at hu
      · rename_i hc
        simp only [Bool.and_eq_true] at hc
        injection hu with hu
        subst hu
        obtain ⟨i, z, te, _, i1, i2, i3, _, _⟩ := sizeT_cells hP hc.1.1.1
        obtain ⟨g, cur, g1, g2, g3⟩ := box_cells h hC
        have hbe := Nat.eq_of_beq_eq_true hc.1.1.2
        subst hbe
        have hlen := Nat.eq_of_beq_eq_true hc.2
        have hpos : 0 < sizeT TT be := Nat.le_of_ble_eq_true hc.1.2
        have hy0 := hy
        simp only [RelV] at hy
        obtain ⟨g', q1, q2⟩ := hy
        rw [q1] at g1
        injection g1 with g1
        injection g1 with g1
        injection g1 with g1
        injection g1 with g1 _
        subst g1
        subst q2
        refine ⟨Lib.run_from_unsafe (e := be) (cells := cs.length) w ⟨g', 0, none⟩ us ud i1 ?_ ?_, hy0⟩
        · have := RelL_length g3
          simp [World.shape?, g2, this]
        · rw [i3, hlen, Nat.div_self hpos]
          exact liesAt_one (by rw [i3]; omega)
      · cases hu
    · cases hu
  · cases hu

theorem sdata_op (h : HRel X keep w0 ι C w) {x r : AV} {vx : Value} (hx : RelV w (okb X w ι C) ι x vx) (hu : sdata C x some = some r) (ts : Array TypeId) (ty : TypeId) :
    ∃ v, (Builtin.unsafeSliceData_ ts ty #[vx]).run P w = .ok v w ∧ RelV w (okb X w ι C) ι r v := by
  unfold sdata at hu
  split at hu
  · injection hu with hu
    subst hu
    simp only [RelV] at hx
    subst hx
    exact ⟨.pointer none, Lib.run_unsafeSliceData_nil w ts ty 0 0, by simp only [RelV]⟩
  · rename_i b
    split at hu
    · rename_i t e xs rw hC
      split at hu
      · rename_i hp
        injection hu with hu
        subst hu
        obtain ⟨A, c, a1, a2, a3⟩ := row_cells h hC
        obtain ⟨g, o, cs, b1, _⟩ := a3 hp
        have ho := row_zero h hC a1 b1
        subst ho
        simp only [RelV] at hx
        obtain ⟨x1, _⟩ := hx
        rw [a1] at x1
        injection x1 with x1
        subst x1
        subst b1
        refine ⟨.pointer (some ⟨g, 0, none⟩), Lib.run_unsafeSliceData_row w ts ty _ _ _ (by omega), ?_⟩
        simp only [RelV]
        exact ⟨g, _, _, a1, hp, by simp⟩
      · cases hu
    · cases hu
  · cases hu

theorem run_loadBytesI : ∀ (l : List Int) (a : Addr) (acc : ByteArray), (∀ j x, l[j]? = some x → w.cell? (a.add j) = some (.int .u8 x)) →
    (loadBytes a acc l.length).run P w = .ok ⟨acc.data ++ (l.map fun n : Int => UInt8.ofNat n.toNat).toArray⟩ w
  | [], a, acc, _ => by simp [loadBytes]
  | x :: l, a, acc, h => by
    have h0 : w.cell? a = some (.int .u8 x) := by
      have := h 0 x rfl
      simpa [Addr.add] using this
    have ih := run_loadBytesI l (a.add 1) (acc.push (UInt8.ofNat x.toNat)) (fun j y hy => by
      have := h (j + 1) y (by simpa using hy)
      have e : (a.add 1).add j = a.add (j + 1) := by
        unfold Addr.add
        by_cases hj : j = 0
        · subst hj; simp
        · simp [hj]; omega
      rw [e]; exact this)
    have hx : x.toNat.toUInt8 = UInt8.ofNat x.toNat := rfl
    simp only [List.length_cons, loadBytes, Sem.run_bind, run_load, h0, Result.andThen, hx]
    rw [ih]
    congr 1
    apply ByteArray.ext
    simp [ByteArray.push]

theorem freeze_heap (w : World) (g n b : Nat) (hb : b ≠ g) : (w.freeze ⟨g, 0, none⟩ n).heap[b]? = w.heap[b]? := by
  unfold World.freeze
  split
  · rfl
  · simp only [Array.getElem?_modify]
    rw [if_neg (by omega)]

theorem freeze_cell (w : World) (a p : Addr) (n : Nat) : (w.freeze a n).cell? p = w.cell? p := by
  unfold World.freeze
  split
  · rfl
  · unfold World.cell?
    simp only [Array.getElem?_modify]
    by_cases hb : a.block = p.block
    · simp only [if_pos hb]
      cases w.heap[p.block]? with
      | none => rfl
      | some o => cases o <;> rfl
    · simp only [if_neg hb]

theorem freeze_size (w : World) (a : Addr) (n : Nat) : (w.freeze a n).heap.size = w.heap.size ∧ (w.freeze a n).os = w.os ∧ (w.freeze a n).tape = w.tape ∧ (w.freeze a n).output = w.output := by
  unfold World.freeze
  split
  · exact ⟨rfl, rfl, rfl, rfl⟩
  · exact ⟨by simp, rfl, rfl, rfl⟩

/-- Rows that are read as data alone from here on, their cells being frozen in the world. -/
theorem HRel.freezeW (h : HRel X keep w0 ι C w) {k : Nat} {t : Ty} {e : Nat} {xs : List t.den} (hk : C k = .row t e xs true) {g : Nat} {n c : Nat} (hι : ι k = some (.slice (some ⟨g, 0, none⟩) n c)) (m : Nat) :
    HRel X keep w0 ι (setC C k (.row t e xs false)) (w.freeze ⟨g, 0, none⟩ m) ∧ Ext X ι C w ι (setC C k (.row t e xs false)) (w.freeze ⟨g, 0, none⟩ m) := by
  have hnone : bk ι (setC C k (.row t e xs false)) k = none := by
    unfold bk; rw [setC_self]
  have hbkk : bk ι C k = some g := by unfold bk; rw [hk, hι]; rfl
  obtain ⟨s1, s2, s3, s4⟩ := freeze_size w ⟨g, 0, none⟩ m
  refine h.step (fun j => j = k) s2 s3 s4 (by rw [s1]; exact Nat.le_refl _) (fun j hj => setC_ne hj) (fun _ _ e => e) (fun _ _ => rfl) ?_ ?_ ?_ ?_
  · rintro j b rfl hb
    rw [hnone] at hb; cases hb
  · exact fun j j' b h1 h2 _ _ => h1.trans h2.symm
  · intro b _ hb
    exact freeze_heap w g m b fun q => hb k rfl (by rw [hbkk, q])
  · rintro hext j rfl
    rw [setC_self]
    have hB := h.bl j
    rw [hk] at hB
    obtain ⟨v, cs, h1, h2, h3⟩ := hB
    refine ⟨v, h1, ?_, ?_⟩
    · rcases h2.2 with ⟨h4, h5⟩ | ⟨g, cap, cur, hv, _⟩
      · rw [h4]; trivial
      · rw [hv]; exact ⟨rfl, rfl⟩
    have h3' := RzL_mono (fun x us hx => hext.data hx) h3
    rcases h2.2 with ⟨h4, h5⟩ | ⟨g2, cap, cur, hv, _, h6, h7, h8, h9, h10⟩
    · exact ⟨none, 0, by rw [h4, h5], by omega, fun hp => by omega⟩
    · refine ⟨some ⟨g2, 0, none⟩, cap, by rw [hv], h7, fun hp => ⟨g2, 0, cs, rfl, ⟨?_, ?_, h.ox g2 ⟨j, by unfold bk; rw [hk, h1, hv]; rfl⟩⟩, h3', fun i u hu => ?_⟩⟩
      · rw [s1]
        exact (Array.getElem?_eq_some_iff.1 h6).1
      · rintro ⟨k', hk'⟩
        have hkk : k' ≠ j := by rintro rfl; rw [hnone] at hk'; cases hk'
        rw [bk_congr (setC_ne hkk) rfl] at hk'
        exact hkk (h.inj k' j g2 hk' (by unfold bk; rw [hk, h1, hv]; rfl))
      · have hcl := h2.cells (g := g2) (by rw [hv]; rfl) i u hu
        rw [Nat.zero_add, freeze_cell]
        rwa [show (⟨g2, 0, none⟩ : Addr).add i = ⟨g2, i, none⟩ from by unfold Addr.add; split <;> simp_all] at hcl

theorem ustr_op (hP : TabOK P TT) (h : HRel X keep w0 ι C w) {tt nb : Nat} {x y : AV} {vx vy : Value} (hx : RelV w (okb X w ι C) ι x vx) (hy : RelV w (okb X w ι C) ι y vy) {e : Eff}
    (hu : ustr TT tt C x y some = some e) (it ty : TypeId) : ∃ v w', (Builtin.unsafeString_ #[tt, it] ty #[vx, vy]).run P w = .ok v w' ∧ Out X keep w0 ι C w nb e v w' := by
  unfold ustr at hu
  split at hu
  · rename_i e1 b n hk
    obtain ⟨_, _, _, hut⟩ := kindOf_und hP hk (by intro q; cases q)
    have hut : P.underlying tt = some (.pointer e1) := hut
    split at hu
    · rename_i e' xs hC
      split at hu
      · rename_i hc
        simp only [Bool.and_eq_true] at hc
        have he := Nat.eq_of_beq_eq_true hc.1.2
        subst he
        have h1 := Nat.eq_of_beq_eq_true hc.2
        obtain ⟨i, z, te, _, i1, i2, i3, _, _⟩ := sizeT_cells hP hc.1.1
        rw [h1] at i3
        split at hu
        · rename_i hn
          subst hn
          split at hu
          · rename_i hl
            injection hu with hu
            subst hu
            rw [rel_int] at hy
            subst hy
            simp only [RelV] at hx
            obtain ⟨g, n, c, x1, x2, x3⟩ := hx
            rw [show 0 * 1 + 0 = 0 from rfl] at x3
            subst x3
            have hB := h.bl b
            rw [hC] at hB
            obtain ⟨v0, cs, b1, b2, b3⟩ := hB
            rw [x1] at b1
            injection b1 with b1
            subst b1
            rcases b2.2 with ⟨q, _⟩ | ⟨g2, cap, cur, q1, q2, q3, q4, q5, q6, q7⟩
            · cases q
            · injection q1 with q1 q8 q9
              injection q1 with q1
              injection q1 with q1 _
              subst q1; subst q8; subst q9
              have hcell : ∀ j (x : Int), xs[j]? = some x → w.cell? ((⟨g, 0, none⟩ : Addr).add j) = some (.int .u8 x) := by
                intro j x hj
                refine b2.cells (g := g) rfl j _ ?_
                rw [RzL_bytes b3]
                simp [hj]
              have hlb := run_loadBytesI (P := P) (w := w) xs ⟨g, 0, none⟩ .empty hcell
              have hsh : w.shape? g = some (e', cur.size) := by simp [World.shape?, q3]
              have hle : xs.length ≤ cur.size := by rw [q6]; show xs.length ≤ c * 1; omega
              have hlies := Lib.liesAt_bytes (P := P) i3 (cur.size / P.cellsOf e') xs.length (by rw [i3]; simpa using hle)
              have hL : LIM = 4294967296 := rfl
              rw [hL] at hl
              have h63' : ¬ (9223372036854775807 : Int) < (xs.length : Int) := by omega
              have hmax : IntKind.i64.max = 9223372036854775807 := rfl
              have hneg : ¬ (xs.length : Int) < 0 := by omega
              refine ⟨.string ⟨(xs.map fun n : Int => UInt8.ofNat n.toNat).toArray⟩, w.freeze ⟨g, 0, none⟩ xs.length, ?_, ?_⟩
              · have hdef : Builtin.unsafeString_ #[tt, it] ty #[.pointer (some ⟨g, 0, none⟩), .int .i64 xs.length] =
                    (do
                      let n ← asInt (.int .i64 xs.length)
                      if n < 0 then runtimePanic (.error "unsafe.String: len out of range")
                      if n > IntKind.i64.max then unsupported (.unsafePointer "String: a length above the largest int")
                      if n = 0 then pure (.string .empty)
                      else if ← variablesAt ⟨g, 0, none⟩ (← elemOf tt) n.toNat then do
                        let s ← loadBytes ⟨g, 0, none⟩ .empty n.toNat
                        freeze ⟨g, 0, none⟩ n.toNat
                        pure (.string s)
                      else unsupported (.unsafePointer "String: not so many bytes at ptr")) := rfl
                rw [hdef]
                simp [asInt, asIntOf, hmax, h63', hneg, variablesAt, hsh, elemOf, run_underlying hut, hlies, hlb]
                intro q
                rw [q] at x2
                simp at x2
              · have := h.freezeW hC x1 xs.length
                exact ⟨ι, this.1, this.2, rel_str.2 rfl, fun _ _ => rfl⟩
          · cases hu
        · cases hu
      · cases hu
    · cases hu
  · rename_i e1 n hk
    split at hu
    · rename_i hn
      subst hn
      rw [rel_int] at hy
      subst hy
      simp only [RelV] at hx
      subst hx
      exact ⟨_, w, Lib.run_unsafeString_none w tt it ty none, Out.of_some h hu (rel_str.2 rfl)⟩
    · cases hu
  · cases hu

/-- What the zero value of a type of bytes is. -/
theorem zero_u8 (hP : TabOK P TT) {e : Nat} {te : TD} (he : TT e = some te) (hk : te.k = .int .u8) (hs : te.size = 1) (hz : zeroU8 te.zero = true) : ∃ i, P.info? e = some i ∧ i.zero = some (.int .u8 0) ∧ i.size = 1 ∧ i.bytes = te.bytes := by
  obtain ⟨i, z, i1, i2, i3, i4, i5, i6, _⟩ := (hP e te he).ex
  have ha := (hP e te he).za i z i1 i4
  refine ⟨i, i1, ?_, by rw [i2, hs], i3⟩
  rw [i4]
  unfold zeroU8 at hz
  split at hz
  · rename_i n hte
    have hn : n = 0 := by simpa using hz
    subst hn
    have h5 := i5 default (fun _ => True) (fun _ => none)
    rw [hte] at h5
    obtain ⟨v, vr, e1, e2, e3⟩ := RelL_cons.1 h5
    rw [RelL_nil.1 e3] at e1
    rw [rel_int] at e2
    subst e2
    rw [hk] at ha
    cases z <;> first | (simp [Value.cells] at e1; done) | (simp [isAgV, TK.agg] at ha; done) | (simp only [Value.cells] at e1; injection e1 with e1; rw [e1]) | skip
    all_goals (first | (simp [Value.cells] at e1; rw [e1]; done) | (simp [Value.cells] at e1; simp [e1]; done) | skip)
  · cases hz

theorem run_append_string0 (t u ty e : TypeId) (i : TypeInfo) (ht : P.underlying t = some (.slice e)) (hu : P.underlying u = some .string) (hi : P.info? e = some i) (hz : i.zero = some (.int .u8 0))
    (hsize : i.size = 1) (hby : i.bytes = 1) (v : Value) (n : Nat) (xs : List Value) (hown : w.ownsRow 0 e 1 v n xs) (s : List UInt8) (hl : n + s.length ≤ LIM) :
    ∃ v' w', (Builtin.append_ #[t, u] ty #[v, .string ⟨s.toArray⟩]).run P w = .ok v' w' ∧ w'.ownsRow 0 e 1 v' (n + s.length) (xs ++ s.map fun b => Value.int .u8 b.toNat) ∧ w.grownBy w' v.ownBlock ∧ (v'.ownBlock = v.ownBlock ∨ v'.ownBlock = some w.heap.size) := by
  have hL : LIM = 4294967296 := rfl
  rw [hL] at hl
  have hsz : (⟨s.toArray⟩ : ByteArray).size = s.length := by simp [ByteArray.size]
  have hm : n + (⟨s.toArray⟩ : ByteArray).size ≤ maxLen := by rw [hsz]; simp only [maxLen]; omega
  have hb : n + (⟨s.toArray⟩ : ByteArray).size ≤ 140737488355328 := by rw [hsz]; omega
  obtain ⟨v', w', r1, r2, r3, _⟩ := Lib.run_append_own_string (P := P) w 0 t u ty e i ht hu hi hz hsize hby v n xs hown ⟨s.toArray⟩ hm hb (Nat.zero_le _)
  refine ⟨v', w', r1, by rw [hsz] at r2; exact r2, r3, ?_⟩
  rcases hown.2 with ⟨rfl, rfl⟩ | ⟨g, cap, cur, rfl, hbg, hg, hnc, hcm, hcs, htake⟩
  · have hx : xs = [] := List.eq_nil_of_length_eq_zero (by simpa using hown.1)
    subst hx
    by_cases h0 : s.length = 0
    · have hs : s = [] := List.eq_nil_of_length_eq_zero h0
      subst hs
      have hf := Lib.run_firstCells_string (P := P) w 1 ⟨[].toArray⟩
      have : (Builtin.append_ #[t, u] ty #[.slice none 0 0, .string ⟨[].toArray⟩]).run P w = .ok (.slice none 0 0) w := by
        have hf : (Builtin.firstCells 1 0 (.string ⟨#[]⟩)).run P w = .ok #[] w := by simp [Builtin.firstCells]
        simp [Builtin.append_, run_underlying ht, run_underlying hu, sizeOf, typeInfo, hi, hsize, Builtin.lenOf, ByteArray.size, hf]
      rw [this] at r1
      injection r1 with r1 _
      exact .inl (by rw [← r1])
    · have hr := run_append_nil_string (P := P) w t u ty e i (.int .u8 0) ht hu hi hz ⟨s.toArray⟩ (by rw [hsz]; omega) (by rw [hsz]; omega) (by rw [hby, hsz]; omega)
      rw [hr] at r1
      injection r1 with r1 _
      exact .inr (by rw [← r1]; rfl)
  · by_cases hroom : n + (⟨s.toArray⟩ : ByteArray).size ≤ cap
    · have hcs' : cur.size = cap := by simpa using hcs
      have hr := Lib.run_append_room_string (P := P) w t u ty e i ht hu hi hsize g n cap cur hg ⟨s.toArray⟩ hroom (by omega)
      rw [hr] at r1
      injection r1 with r1 _
      exact .inl (by rw [← r1]; rfl)
    · have holds : ∀ j u, xs[j]? = some u → w.cell? ((⟨g, 0, none⟩ : Addr).add j) = some u := hown.cells (g := g) rfl
      have hr := Lib.run_append_grow_string (P := P) w t u ty e i (.int .u8 0) ht hu hi hz ⟨g, 0, none⟩ n cap xs (by rw [hsize]; exact hown.1) holds ⟨s.toArray⟩ (by omega) (by rw [hsz]; omega) (by rw [hby]; exact growslice_fits (by omega) (by omega))
      rw [hr] at r1
      injection r1 with r1 _
      exact .inr (by rw [← r1]; rfl)

theorem RzL_u8 {ok : Nat → Prop} : ∀ s : List UInt8, RzL (Rz w ok (.int .u8)) (s.map fun b => (b.toNat : Int)) (s.map fun b => Value.int .u8 b.toNat)
  | [] => rfl
  | _ :: r => ⟨[_], _, rfl, rfl, RzL_u8 r⟩

theorem appStr_op (hP : TabOK P TT) (h : HRel X keep w0 ι C w) {nb : Nat} {tt tt' e : Nat} {td te : TD} (ht : TT tt = some td) (hk : td.k = .sl e) (he : TT e = some te) (rt : TypeId) {x y : AV} {vx vy : Value}
    (hx : RelV w (okb X w ι C) ι x vx) (hy : RelV w (okb X w ι C) ι y vy) {ef : Eff} (ha : appStr TT tt' e te C nb x y some = some ef) (hn : ∀ k, nb ≤ k → k < nb + ef.new.length → ι k = none) :
    ∃ v w', (Builtin.append_ #[tt, tt'] rt #[vx, vy]).run P w = .ok v w' ∧ Out X keep w0 ι C w nb ef v w' := by
  have hu := (hP tt td ht).und
  rw [hk] at hu
  have hu : P.underlying tt = some (.slice e) := hu
  unfold appStr at ha
  split at ha
  · rename_i s hk' hke
    obtain ⟨_, _, _, hut⟩ := kindOf_und hP hk' (by intro q; cases q)
    have hut : P.underlying tt' = some .string := hut
    split at ha
    · rename_i hc
      simp only [Bool.and_eq_true] at hc
      obtain ⟨i, i1, i2, i3, i4⟩ := zero_u8 hP he hke (Nat.eq_of_beq_eq_true hc.1.1) hc.2
      rw [Nat.eq_of_beq_eq_true hc.1.2] at i4
      rw [rel_str] at hy
      subst hy
      split at ha
      · simp only [RelV] at hx
        subst hx
        split at ha
        · rename_i hl
          injection ha with ha
          subst ha
          have hnb := hn nb (Nat.le_refl _) (by simp)
          obtain ⟨v', w', r1, r2, r3, r4⟩ := run_append_string0 (w := w) tt tt' rt e i hu hut i1 i2 i3 i4 (.slice none 0 0) 0 [] (World.ownsRow_nil w 0 e 1) s (by omega)
          refine ⟨v', w', r1, Out.row h hnb (t := .int .u8) r3 ?_ (fun g q => ?_) (RzL_u8 s)⟩
          · rw [List.length_map]
            rw [Nat.zero_add, List.nil_append] at r2
            exact r2
          · rcases r4 with r4 | r4
            · rw [r4] at q; cases q
            · rw [r4] at q; injection q with q; omega
        · cases ha
      · rename_i b
        split at ha
        · rename_i e' xs hC
          split at ha
          · rename_i he'
            have he' := Nat.eq_of_beq_eq_true he'
            subst he'
            split at ha
            · rename_i hl
              injection ha with ha
              subst ha
              have hnb := hn nb (Nat.le_refl _) (by simp)
              have hB := h.bl b
              rw [hC] at hB
              obtain ⟨v0, cs0, b1, b2, b3⟩ := hB
              simp only [RelV] at hx
              rw [hx.1] at b1
              injection b1 with b1
              subst b1
              obtain ⟨v', w', r1, r3, r4, r5⟩ := run_append_string0 (w := w) tt tt' rt e' i hu hut i1 i2 i3 i4 vx xs.length cs0 b2 s hl
              refine ⟨v', w', r1, ?_⟩
              have hbn : b ≠ nb := by rintro rfl; rw [hnb] at hx; cases hx.1
              have hbk : bk ι C b = vx.ownBlock := by unfold bk; rw [hC, hx.1]
              have hdead : ∀ ι', bk ι' (setC (setC C b .dead) nb (.row (.int .u8) e' (xs ++ s.map fun b => (b.toNat : Int)) true)) b = none := by
                intro ι'
                unfold bk; rw [setC_ne hbn, setC_self]
              have hnew : bk (setI ι nb v') (setC (setC C b .dead) nb (.row (.int .u8) e' (xs ++ s.map fun b => (b.toNat : Int)) true)) nb = v'.ownBlock := by
                unfold bk; rw [setC_self, setI_self]
              have := h.step (C' := setC (setC C b .dead) nb (.row (.int .u8) e' (xs ++ s.map fun b => (b.toNat : Int)) true)) (ι' := setI ι nb v') (w' := w') (fun k => k = b ∨ k = nb) r4.os r4.tape r4.output r4.size
                (fun k hk => by rw [setC_ne (fun q => hk (.inr q)), setC_ne (fun q => hk (.inl q))])
                (fun k u hk => by
                  by_cases q : k = nb
                  · subst q; rw [hnb] at hk; cases hk
                  · rw [setI_ne q]; exact hk) (fun k hk => setI_ne (fun q => hk (.inr q)))
                (fun k g hk q => by
                  rcases hk with rfl | rfl
                  · rw [hdead] at q; cases q
                  · rw [hnew] at q
                    rcases r5 with r5 | r5
                    · exact .inr ⟨b, .inl rfl, by rw [hbk, ← r5, q]⟩
                    · rw [r5] at q; injection q with q; exact .inl (by omega))
                (fun k k' g hk hk' q q' => by
                  rcases hk with rfl | rfl
                  · rw [hdead] at q; cases q
                  · rcases hk' with rfl | rfl
                    · rw [hdead] at q'; cases q'
                    · rfl)
                (fun g hg hk => r4.block g hg (fun q => hk b (.inl rfl) (by rw [hbk, ← q])))
                (fun hext k hk => by
                  by_cases q : k = nb
                  · subst q
                    rw [setC_self]
                    refine ⟨v', _, setI_self _ _ _, ?_, RzL_append (RzL_mono (fun x us hx => hext.data hx) b3) (RzL_u8 s)⟩
                    rw [List.length_append, List.length_map]
                    exact r3
                  · have q2 : k = b := hk.resolve_right q
                    subst q2
                    rw [setC_ne q, setC_self]
                    trivial)
              refine ⟨setI ι nb v', this.1, this.2, ?_, fun k hk => setI_ne (by rintro rfl; exact hk ⟨Nat.le_refl _, by simp⟩)⟩
              simp only [RelV]
              refine ⟨setI_self _ _ _, ?_⟩
              rcases r3.2 with ⟨h1, h2⟩ | ⟨g, cap, cur, h1, _⟩
              · exact ⟨none, 0, 0, by rw [h1]⟩
              · exact ⟨_, _, _, h1⟩
            · cases ha
          · cases ha
        · cases ha
      · cases ha
    · cases ha
  · cases ha

/-- The first elements of a row of the call's own, as a row of its own. -/
theorem HRel.cut (h : HRel X keep w0 ι C w) {i nb sz len : Nat} {u : Value} (hv : RelV w (okb X w ι C) ι (.rs i sz 0 len) u) {ty : Ty} {e : Nat} {xs : List ty.den} (hC : C i = .row ty e xs true) (hnone : ι nb = none) :
    HRel X keep w0 (setI ι nb u) (setC (setC C i .dead) nb (.row ty e (xs.take len) true)) w ∧ Ext X ι C w (setI ι nb u) (setC (setC C i .dead) nb (.row ty e (xs.take len) true)) w ∧
      RelV w (okb X w (setI ι nb u) (setC (setC C i .dead) nb (.row ty e (xs.take len) true))) (setI ι nb u) (.rf nb) u := by
  simp only [RelV] at hv
  obtain ⟨A, nn, c, A', c', v1, v2, v3, v4, v5, v6⟩ := hv
  obtain ⟨rfl, rfl⟩ := v6 trivial
  have hB := h.bl i
  rw [hC] at hB
  obtain ⟨v, cs, b1, b2, b3⟩ := hB
  rw [v1] at b1
  injection b1 with b1
  subst b1
  have hne : i ≠ nb := by rintro rfl; rw [hnone] at v1; cases v1
  have hlen : nn = xs.length := by
    rcases b2.2 with ⟨q, q'⟩ | ⟨g, cap, cur, q, _⟩
    · injection q with _ q1 _
      omega
    · injection q
  have hxl : (xs.take len).length = len := by rw [List.length_take]; omega
  have hbk : ∀ b, bk (setI ι nb u) (setC (setC C i .dead) nb (.row ty e (xs.take len) true)) nb = some b → bk ι C i = some b := by
    intro b hb
    unfold bk at hb ⊢
    rw [setC_self, setI_self, v3] at hb
    rw [hC, v1]
    cases A' with
    | none => exact hb
    | some A => exact hb
  have hdead : bk (setI ι nb u) (setC (setC C i .dead) nb (.row ty e (xs.take len) true)) i = none := by
    unfold bk
    rw [setC_ne hne, setC_self]
  obtain ⟨h1, h2⟩ := h.step (C' := setC (setC C i .dead) nb (.row ty e (xs.take len) true)) (ι' := setI ι nb u) (w' := w) (fun k => k = i ∨ k = nb) rfl rfl rfl (Nat.le_refl _)
    (fun k hk => by
      have k1 : k ≠ i := fun q => hk (.inl q)
      have k2 : k ≠ nb := fun q => hk (.inr q)
      rw [setC_ne k2, setC_ne k1])
    (fun k v hk => by
      have hne : k ≠ nb := by rintro rfl; rw [hnone] at hk; cases hk
      rw [setI_ne hne]; exact hk) (fun k hk => setI_ne (fun q => hk (.inr q)))
    (by
      rintro k b (rfl | rfl) hb
      · rw [hdead] at hb; cases hb
      · exact .inr ⟨i, .inl rfl, hbk b hb⟩)
    (by
      rintro k k' b (rfl | rfl) (rfl | rfl) e1 e2
      · rfl
      · rw [hdead] at e1; cases e1
      · rw [hdead] at e2; cases e2
      · rfl) (fun _ _ _ => rfl)
    (by
      rintro hext k (rfl | rfl)
      · rw [setC_ne hne, setC_self]
        trivial
      · rw [setC_self]
        refine ⟨u, cs.take (len * ty.size), setI_self .., ⟨?_, ?_⟩, ?_⟩
        · rw [List.length_take, b2.1, hxl]
          exact Nat.min_eq_left (Nat.mul_le_mul_right _ (by omega))
        · rw [hxl, v3]
          rcases b2.2 with ⟨q, q'⟩ | ⟨g, cap, cur, q, q1, q2, q3, q4, q5, q6⟩
          · left
            injection q with p1 p2 p3
            exact ⟨by rw [p1, p3, show len = 0 by omega], by omega⟩
          · right
            injection q with p1 p2 p3
            refine ⟨g, cap, cur, by rw [p1, p3], q1, q2, by omega, q4, q5, ?_⟩
            rw [← q6, List.take_take, Nat.min_eq_left (Nat.mul_le_mul_right _ (by omega))]
        · exact RzL_take (fun x us hx => Rz_length _ _ _ hx) len (RzL_mono (Rz_mono (fun _ _ _ _ e => e) hext.ok _) b3))
  refine ⟨h1, h2, ?_⟩
  simp only [RelV]
  rw [v3]
  exact ⟨by rw [setI_self], _, _, _, rfl⟩

theorem cut_store (hP : TabOK P TT) (h : HRel X keep w0 ι C w) {tt : Nat} {b o' nb : Nat} {x : AV} {va vx : Value} (ha : RelV w (okb X w ι C) ι (.pt b o') va) (hx : RelV w (okb X w ι C) ι x vx) {cs : List AV} {be : Nat} (hb : C b = .box be cs)
    {i : Nat} {r : Blk} (hr : cutRow C x = some (i, r)) (hn : ι nb = none) (hc : ((TT tt).isSome && Nat.beq 1 (sizeT TT tt) && Nat.ble (o' + 1) cs.length) = true) :
    ∃ w', (Instr.storeAt tt va vx).run P w = .ok () w' ∧ Out X keep w0 ι C w nb ⟨.un, [(i, .dead), (b, .box be (splice cs o' [.rf nb]))], [r]⟩ undef w' := by
  unfold cutRow at hr
  split at hr
  · rename_i i' sz off len
    split at hr
    · rename_i t e xs hC
      split at hr
      · rename_i ho
        simp only [Bool.and_eq_true] at ho
        have ho1 := Nat.eq_of_beq_eq_true ho.1
        subst ho1
        injection hr with hr
        injection hr with hr1 hr2
        subst hr1; subst hr2
        obtain ⟨h1, e1, v1⟩ := h.cut hx hC hn
        have hbi : b ≠ i' := by rintro rfl; rw [hC] at hb; cases hb
        have hbn : b ≠ nb := by
          rintro rfl
          simp only [RelV] at ha
          obtain ⟨g, q, _⟩ := ha
          rw [hn] at q; cases q
        have hb1 : setC (setC C i' .dead) nb (.row t e (xs.take len) true) b = .box be cs := by rw [setC_ne hbn, setC_ne hbi, hb]
        obtain ⟨w', r1, ι', o1, o2, o3, o4⟩ := store_box (nb := nb + 1) hP h1 (e1.val ha) v1 hb1 (by
          simp only [Bool.and_eq_true] at hc ⊢
          exact ⟨⟨⟨hc.1.1, rfl⟩, hc.1.2⟩, hc.2⟩)
        have he : effC C nb ⟨.un, [(i', .dead), (b, .box be (splice cs o' [.rf nb]))], [.row t e (xs.take len) true]⟩ = effC (setC (setC C i' .dead) nb (.row t e (xs.take len) true)) (nb + 1) ⟨.un, [(b, .box be (splice cs o' [.rf nb]))], []⟩ := by
          show setC (setC (setC C i' .dead) b _) nb _ = setC (setC (setC C i' .dead) nb _) b _
          funext k
          by_cases k1 : k = b
          · subst k1
            rw [setC_ne hbn, setC_self, setC_self]
          · by_cases k2 : k = nb
            · subst k2
              rw [setC_self, setC_ne k1, setC_self]
            · rw [setC_ne k2, setC_ne k1, setC_ne k1, setC_ne k2]
        refine ⟨w', r1, ι', ?_, ?_, ?_, fun k hk => ?_⟩
        · rw [he]; exact o1
        · rw [he]; exact e1.trans o2
        · simp only [RelV]
        · have hk' : k ≠ nb := by rintro rfl; exact hk ⟨Nat.le_refl _, by simp⟩
          rw [o4 k (by simp), setI_ne hk']
      · cases hr
    · cases hr
  · cases hr
end
end Go.Proofs.Rf
/- Rf, part jd: elements copied into a row of the call's own, from whatever row. -/
namespace Go.Proofs.Rf
open Go Go.RowKit
section
variable {X keep : Nat → Prop} {w0 w : World} {ι : Nat → Option Value} {C : Nat → Blk} {P : Program} {TT : Tab}

theorem run_copy_rowN (w : World) (dT sT ty elem : TypeId) (i : TypeInfo) (g o dLen dCap : Nat) (a : Addr) (sLen sCap : Nat) (cur : Array Value) (t : TypeId) (cs : List Value)
    (hu : P.underlying dT = some (.slice elem)) (hi : P.info? elem = some i)
    (hg : w.heap[g]? = some (.cells cur t (0, 0))) (hn : cs.length = Nat.min sLen dLen * i.size)
    (hsrc : ∀ j v, cs[j]? = some v → w.cell? (a.add j) = some v) (hfit : o + cs.length ≤ cur.size) (h1 : ∀ v ∈ cs, v.oneCell' = true) :
    (Builtin.copy_ #[dT, sT] ty #[.slice (some ⟨g, o, none⟩) dLen dCap, .slice (some a) sLen sCap]).run P w =
      .ok (goInt (Nat.min sLen dLen)) (w.setRow g (cur.toList.take o ++ cs ++ cur.toList.drop (o + cs.length)).toArray) := by
  have hl := run_firstCells_some (P := P) w i.size (Nat.min sLen dLen) a sLen sCap cs hn hsrc
  have hst := run_storeCells_at P g o t cs 0 cur w hg (by simpa using hfit) h1
  rw [Nat.add_zero] at hst
  simp [Builtin.copy_, run_underlying hu, Builtin.lenOf, sizeOf, typeInfo, hi, hl, hst]

theorem run_copy_noneN (w : World) (dT sT ty elem : TypeId) (i : TypeInfo) (d a : Option Addr) (dLen dCap sLen sCap : Nat) (hu : P.underlying dT = some (.slice elem)) (hi : P.info? elem = some i) (hn : Nat.min sLen dLen = 0) :
    (Builtin.copy_ #[dT, sT] ty #[.slice d dLen dCap, .slice a sLen sCap]).run P w = .ok (goInt 0) w := by
  have hl : ∀ (x : Addr), (loadCells x 0).run P w = .ok #[] w := fun x => by simpa using run_loadCells_list (P := P) w x [] (by simp)
  cases d <;> cases a <;> simp [Builtin.copy_, run_underlying hu, Builtin.lenOf, Builtin.firstCells, sizeOf, typeInfo, hi, hn, storeCells, hl]

/-- A row that lies in the world. -/
def SrcOK (w : World) (ok : Nat → Prop) (t : Ty) (ys : List t.den) (v : Value) : Prop :=
  ∃ A c, v = .slice A ys.length c ∧ (0 < ys.length → ∃ g o cs, A = some ⟨g, o, none⟩ ∧ RzL (Rz w ok t) ys cs ∧ ∀ j u, cs[j]? = some u → w.cell? ⟨g, o + j, none⟩ = some u)

theorem srcOf_sound (h : HRel X keep w0 ι C w) {t : Ty} {y : AV} {vy : Value} (hy : RelV w (okb X w ι C) ι y vy) {ys : List t.den} (hs : srcOf C t y = some ys) : SrcOK w (okb X w ι C) t ys vy := by
  unfold srcOf at hs
  split at hs
  · split at hs
    · rename_i hq _
      obtain ⟨hq⟩ := hq
      subst hq
      injection hs with hs
      subst hs
      simp only [RelV] at hy
      obtain ⟨A, c, e1, e2, e3⟩ := hy
      injection e1 with e1 _
      exact ⟨A, c, e1, fun hp => by
        obtain ⟨g, o, cs, q1, _, q3, q4⟩ := e3 hp
        exact ⟨g, o, cs, q1, q3, q4⟩⟩
    · cases hs
  · injection hs with hs
    subst hs
    simp only [RelV] at hy
    exact ⟨none, 0, hy, fun hp => by simp at hp⟩
  · rename_i b
    split at hs
    · rename_i t' e xs rw hC
      split at hs
      · rename_i hq _
        obtain ⟨hq⟩ := hq
        subst hq
        injection hs with hs
        subst hs
        obtain ⟨A, c, a1, a2, a3⟩ := row_cells h hC
        simp only [RelV] at hy
        obtain ⟨y1, _⟩ := hy
        rw [a1] at y1
        injection y1 with y1
        exact ⟨A, c, y1.symm, a3⟩
      · cases hs
    · cases hs
  · rename_i b sz off len
    split at hs
    · rename_i t' e xs rw hC
      split at hs
      · rename_i hq _
        obtain ⟨hq⟩ := hq
        subst hq
        split at hs
        · rename_i hsz
          have hsz := Nat.eq_of_beq_eq_true hsz
          subst hsz
          injection hs with hs
          subst hs
          obtain ⟨A, c, a1, a2, a3⟩ := row_cells h hC
          simp only [RelV] at hy
          obtain ⟨A1, n, c1, A', c', h1, h2, h3, h4, h5, _⟩ := hy
          rw [a1] at h1
          injection h1 with h1
          injection h1 with z1 z2 z3
          subst z1; subst z2; subst z3
          have hlen : (List.take len (List.drop off (Ty.castL rfl xs))).length = len := by
            rw [Ty.castL_rfl, List.length_take, List.length_drop]; omega
          refine ⟨A', c', by rw [hlen]; exact h3, fun hp => ?_⟩
          rw [hlen] at hp
          obtain ⟨g, k1, k2⟩ := h5 hp
          obtain ⟨g2, o2, cs, q1, q3, q4⟩ := a3 (by omega)
          have ho := row_zero h hC a1 q1
          subst ho
          rw [k1] at q1
          injection q1 with q1
          injection q1 with q1 _ _
          subst q1
          refine ⟨g, off * t'.size, (cs.drop (off * t'.size)).take (len * t'.size), k2, RzL_take (Rz_length t') len (RzL_drop (Rz_length t') off q3), fun j u hu => ?_⟩
          rw [List.getElem?_take] at hu
          split at hu
          · rw [List.getElem?_drop] at hu
            have := q4 _ u hu
            rwa [Nat.zero_add] at this
          · cases hu
        · cases hs
      · cases hs
    · cases hs
  · cases hs

theorem dstOf_sound (h : HRel X keep w0 ι C w) {x : AV} {vx : Value} (hx : RelV w (okb X w ι C) ι x vx) {b off len : Nat} (hd : dstOf C x = some (b, off, len)) :
    ∃ (t : Ty) (e : Nat) (xs : List t.den), C b = .row t e xs true ∧ RelV w (okb X w ι C) ι (.rs b t.size off len) vx := by
  unfold dstOf at hd
  split at hd
  · split at hd
    · rename_i t e xs hC
      split at hd
      · rename_i hs
        have hs := Nat.eq_of_beq_eq_true hs
        injection hd with hd
        injection hd with d1 d2
        injection d2 with d2 d3
        subst d1; subst d2; subst d3
        exact ⟨t, e, xs, hC, hs ▸ hx⟩
      · cases hd
    · cases hd
  · split at hd
    · rename_i t e xs hC
      injection hd with hd
      injection hd with d1 d2
      injection d2 with d2 d3
      subst d1; subst d2; subst d3
      refine ⟨t, e, xs, hC, ?_⟩
      obtain ⟨A, c, a1, a2, a3⟩ := row_cells h hC
      simp only [RelV] at hx ⊢
      obtain ⟨y1, _⟩ := hx
      rw [a1] at y1
      injection y1 with y1
      refine ⟨A, xs.length, c, A, c, a1, by omega, y1.symm, a2, fun hp => ?_, fun _ => ⟨rfl, rfl⟩⟩
      obtain ⟨g, o, cs, q1, _⟩ := a3 hp
      have ho := row_zero h hC a1 q1
      subst ho
      exact ⟨g, q1, by rw [Nat.zero_mul]; exact q1⟩
    · cases hd
  · cases hd

/-- Elements are copied into a row of the call's own. -/
theorem copy_opN (hP : TabOK P TT) (h : HRel X keep w0 ι C w) {tt e b off len nb : Nat} {td te : TD} (htd : TT tt = some td) (hk : td.k = .sl e) (hte : TT e = some te) {t : Ty} (ht : t.size = te.size) {e' : Nat} {xs : List t.den} (hb : C b = .row t e' xs true)
    {vd vs : Value} {ys : List t.den} (hd : RelV w (okb X w ι C) ι (.rs b t.size off len) vd) (hs : SrcOK w (okb X w ι C) t ys vs) (st ty : Nat) :
    ∃ v w', (Builtin.copy_ #[tt, st] ty #[vd, vs]).run P w = .ok v w' ∧ Out X keep w0 ι C w nb ⟨.d (.int .i64) ((min ys.length len : Nat) : Int), [(b, .row t e' (xs.take off ++ ys.take len ++ xs.drop (off + min ys.length len)) true)], []⟩ v w' := by
  have hu : P.underlying tt = some (.slice e) := by
    have := (hP tt td htd).und
    rw [hk] at this
    exact this
  obtain ⟨i, z, i1, i2, _⟩ := (hP e te hte).ex
  rw [← ht] at i2
  obtain ⟨A2, c2, e1, e3⟩ := hs
  subst e1
  simp only [RelV] at hd
  obtain ⟨A1, n, c, A', c', h1, h2, h3, h4, h5⟩ := hd
  subst h3
  rcases Nat.eq_zero_or_pos (min ys.length len) with hm | hm
  · refine ⟨_, w, run_copy_noneN w tt st ty e i A' A2 len c' ys.length c2 hu i1 hm, ?_⟩
    have hx : xs.take off ++ ys.take len ++ xs.drop (off + min ys.length len) = xs := by
      have : ys.take len = [] := by
        rw [← List.length_eq_zero_iff, List.length_take, Nat.min_comm]
        exact hm
      rw [this, hm, List.append_nil, Nat.add_zero, List.take_append_drop]
    rw [hx, hm]
    have hC : setC C b (.row t e' xs true) = C := by
      funext j
      unfold setC
      split
      · rename_i hj; rw [hj, hb]
      · rfl
    refine ⟨ι, ?_, ?_, ?_, fun _ _ => rfl⟩
    · show HRel X keep w0 ι (setC C b (.row t e' xs true)) w
      rw [hC]; exact h
    · show Ext X ι C w ι (setC C b (.row t e' xs true)) w
      rw [hC]; exact Ext.refl _ _ _ _
    · simp only [RelV]
      rfl
  · obtain ⟨g, k1, k2⟩ := h5.1 (by omega)
    subst k2
    obtain ⟨g2, o2, cs2, q1, q3, q4⟩ := e3 (by omega)
    subst q1
    have hB := h.bl b
    rw [hb] at hB
    obtain ⟨v0, cs, r1, r2, r3⟩ := hB
    rw [r1] at h1
    injection h1 with h1
    subst h1
    subst k1
    rcases r2.2 with ⟨r4, _⟩ | ⟨g', cap, cur, hv, _, p2, p3, p4, p5, p6⟩
    · cases r4
    injection hv with z1 z2 z3
    injection z1 with z1
    injection z1 with z1 _ _
    subst z1; subst z2; subst z3
    have hl2 := RzL_length (Rz_length t) q3
    have hmin : min len ys.length = min ys.length len := Nat.min_comm _ _
    have t2 := RzL_take (Rz_length t) len q3
    have hcl : (cs2.take (len * t.size)).length = min ys.length len * t.size := by
      have := RzL_length (Rz_length t) t2
      rw [this, List.length_take, hmin]
    have hcl' : min ys.length len ≤ len := Nat.min_le_right _ _
    have hb1 : off * t.size + min ys.length len * t.size ≤ xs.length * t.size := by
      rw [← Nat.add_mul]
      exact Nat.mul_le_mul_right _ (by omega)
    have hb2 : xs.length * t.size ≤ c * t.size := Nat.mul_le_mul_right _ p3
    have hrun := run_copy_rowN (P := P) w tt st ty e i g (off * t.size) len c' ⟨g2, o2, none⟩ ys.length c2 cur e' (cs2.take (len * t.size)) hu i1 p2 (by rw [hcl, i2]) (fun j v hj => by
      rw [addr_add]
      refine q4 j v ?_
      rw [List.getElem?_take] at hj
      split at hj
      · exact hj
      · cases hj) (by rw [hcl, p5]; omega) (fun v hv => RzL_one q3 v (List.mem_of_mem_take hv))
    refine ⟨_, _, hrun, ι, ?_⟩
    have hbk : bk ι C b = some g := by unfold bk; rw [hb, r1]; rfl
    have hbk' : bk ι (setC C b (.row t e' (xs.take off ++ ys.take len ++ xs.drop (off + min ys.length len)) true)) b = some g := by unfold bk; rw [setC_self, r1]; rfl
    have hcs : cs.length = xs.length * t.size := r2.1
    have hcur : cur.toList = cs ++ cur.toList.drop (xs.length * t.size) := by
      conv => lhs; rw [← List.take_append_drop (xs.length * t.size) cur.toList]
      rw [p6]
    have hnew : cur.toList.take (off * t.size) ++ cs2.take (len * t.size) ++ cur.toList.drop (off * t.size + (cs2.take (len * t.size)).length) = (cs.take (off * t.size) ++ cs2.take (len * t.size) ++ cs.drop (off * t.size + min ys.length len * t.size)) ++ cur.toList.drop (xs.length * t.size) := by
      rw [hcl]
      generalize cur.toList.drop (xs.length * t.size) = D at hcur
      rw [hcur, List.take_append_of_le_length (by omega), List.drop_append_of_le_length (by omega)]
      simp only [List.append_assoc]
    have hlen : (xs.take off ++ ys.take len ++ xs.drop (off + min ys.length len)).length = xs.length := by
      simp only [List.length_append, List.length_take, List.length_drop]
      omega
    have := h.step (C' := setC C b (.row t e' (xs.take off ++ ys.take len ++ xs.drop (off + min ys.length len)) true)) (ι' := ι) (w' := w.setRow g (cur.toList.take (off * t.size) ++ cs2.take (len * t.size) ++ cur.toList.drop (off * t.size + (cs2.take (len * t.size)).length)).toArray) (fun j => j = b) rfl rfl rfl (by simp)
      (fun j hj => setC_ne hj) (fun _ _ q => q) (fun _ _ => rfl) (fun k b' hk q => by
        subst hk
        rw [hbk'] at q
        injection q with q
        subst q
        exact .inr ⟨_, rfl, hbk⟩) (fun k k' b' hk hk' _ _ => hk.trans hk'.symm) (fun b' hb' hk => setRow_other _ _ _ _ (by rintro rfl; exact hk b rfl hbk)) (fun hext k hk => by
        subst hk
        rw [setC_self]
        have t1 := RzL_take (Rz_length t) off r3
        have t3 := RzL_drop (Rz_length t) (off + min ys.length len) r3
        have hR := RzL_mono (fun x us hx => hext.data hx) (RzL_append (RzL_append t1 t2) t3)
        have hl3 := RzL_length (Rz_length t) hR
        rw [hlen] at hl3
        rw [Nat.add_mul] at hR hl3
        refine ⟨.slice (some ⟨g, 0, none⟩) xs.length c, cs.take (off * t.size) ++ cs2.take (len * t.size) ++ cs.drop (off * t.size + min ys.length len * t.size), r1, ?_, hR⟩
        rw [hlen]
        refine ⟨hl3, .inr ⟨g, c, _, rfl, Nat.zero_le _, setRow_heap _ _ _ _ _ _ p2, p3, p4, ?_, ?_⟩⟩
        · have hct : cur.toList.length = cur.size := Array.length_toList
          rw [List.size_toArray, hnew, List.length_append, hl3, List.length_drop]
          omega
        · rw [hnew]
          simp only []
          rw [List.take_left' hl3])
    exact ⟨this.1, this.2, rel_int.2 rfl, fun _ _ => rfl⟩

theorem copyOp_op (hP : TabOK P TT) (h : HRel X keep w0 ι C w) {tt nb : Nat} {x y : AV} {vx vy : Value} (hx : RelV w (okb X w ι C) ι x vx) (hy : RelV w (okb X w ι C) ι y vy) {e : Eff} (hc : copyOp TT tt C x y some = some e) (st ty : Nat) :
    ∃ v w', (Builtin.copy_ #[tt, st] ty #[vx, vy]).run P w = .ok v w' ∧ Out X keep w0 ι C w nb e v w' := by
  unfold copyOp at hc
  split at hc
  · rename_i e1 b off len hk hd
    obtain ⟨td, htd, hk', _⟩ := kindOf_und hP hk (by intro q; cases q)
    obtain ⟨t, e', xs, hC, hv⟩ := dstOf_sound h hx hd
    rw [hC] at hc
    split at hc
    · rename_i te t2 e2 xs2 hte hrow
      injection hrow with q1 q2 q3 q4
      subst q1; subst q2
      have q3 := eq_of_heq q3
      subst q3
      split at hc
      · rename_i hs
        have hs := Nat.eq_of_beq_eq_true hs
        split at hc
        · rename_i ys hys
          injection hc with hc
          subst hc
          exact copy_opN hP h htd hk' hte hs hC hv (srcOf_sound h hy hys) st ty
        · cases hc
      · cases hc
    · cases hc
  · cases hc

theorem copyOp_nat {R : Type} (tt : Nat) (C : Nat → Blk) (x y : AV) (K : Eff → Option R) : copyOp TT tt C x y K = (copyOp TT tt C x y some).bind K := by
  unfold copyOp
  split
  · split
    · split
      · split <;> rfl
      · rfl
    · rfl
  · rfl
end
end Go.Proofs.Rf
/- Rf, part je: arrays of numbers in rows; numbers and bytes turned into strings and back; functions that lie in data. -/
namespace Go.Proofs.Rf
open Go Go.RowKit

section
variable {X keep : Nat → Prop} {w0 w : World} {ι : Nat → Option Value} {C : Nat → Blk} {P : Program} {TT : Tab}

theorem zerosK_rel {ok : Nat → Prop} {k : IntKind} : ∀ {cs : List AV} {us : List Value}, zerosK k cs = true → RelL w ok ι cs us → us = List.replicate cs.length (.int k 0)
  | [], us, _, h => RelL_nil.1 h
  | c :: cs, us, hz, h => by
    unfold zerosK at hz
    split at hz
    · rename_i e
      cases e
    · rename_i k' n r e
      injection e with e1 e2
      subst e1; subst e2
      rw [Bool.and_eq_true, Bool.and_eq_true] at hz
      obtain ⟨⟨h1, h2⟩, h3⟩ := hz
      obtain ⟨v, vr, e, g1, g2⟩ := RelL_cons.1 h
      rw [rel_int] at g1
      have := ikEq_eq h1
      subst this
      have h2 : n = 0 := by simpa using h2
      rw [e, g1, h2, zerosK_rel h3 g2, List.length_cons, List.replicate_succ]
    · cases hz

theorem RzL_ints {ok : Nat → Prop} {k : IntKind} : ∀ (xs : List Int), RzL (Rz w ok (.int k)) xs (xs.map (Value.int k))
  | [] => rfl
  | x :: xs => ⟨[.int k x], xs.map (Value.int k), rfl, rfl, RzL_ints xs⟩

theorem arrOf_sound {td : TD} {n : Nat} {k : IntKind} (ha : arrOf TT td = some (n, k)) :
    n ≤ 1024 ∧ 8 < n ∧ td.zero.length = n ∧ zerosK k td.zero = true := by
  unfold arrOf at ha
  split at ha
  · split at ha
    · split at ha
      · rename_i hc
        injection ha with ha
        injection ha with h1 h2
        subst h1; subst h2
        simp only [Bool.and_eq_true] at hc
        obtain ⟨⟨⟨⟨c1, c2⟩, c3⟩, c4⟩, c5⟩ := hc
        exact ⟨Nat.le_of_ble_eq_true c2, Nat.le_of_ble_eq_true c1, Nat.eq_of_beq_eq_true c3, c5⟩
      · cases ha
    · cases ha
  · cases ha

theorem allocArr_op (hP : TabOK P TT) (h : HRel X keep w0 ι C w) {nb : Nat} (hn : ι nb = none) {e : Nat} {td : TD} (he : TT e = some td) {n : Nat} {k : IntKind} (ha : arrOf TT td = some (n, k)) :
    ∃ v w', (Instr.alloc e true (.tuple #[])).run P w = .ok v w' ∧ Out X keep w0 ι C w nb ⟨.pa nb, [], [.row (.int k) e (List.replicate n (0 : Int)) true]⟩ v w' := by
  obtain ⟨i, z, h1, h2, h3, h4, h5, h6, _⟩ := (hP e td he).ex
  obtain ⟨a1, a2, a3, a4⟩ := arrOf_sound ha
  have hz : z.cells.toList = List.replicate n (.int k 0) := by
    have := zerosK_rel a4 (h5 w (okb X w ι C) ι)
    rw [a3] at this
    exact this
  have hrun : (Instr.alloc e true (.tuple #[])).run P w = .ok (.pointer (some ⟨w.heap.size, 0, none⟩)) (w.alloc (.cells z.cells e)) := by
    simp [Instr.alloc, zeroValue, typeInfo, h1, h4, newVar, newRow]
  refine ⟨_, _, hrun, Out.new (v := .slice (some ⟨w.heap.size, 0, none⟩) n n) (h.new hn (World.grownBy_alloc _ _ _) ?_ ?_) ?_⟩
  · intro g q
    unfold bk at q
    rw [setC_self, setI_self] at q
    injection q with q
    have q : w.heap.size = g := q
    omega
  · intro hext
    refine ⟨_, (List.replicate n (0 : Int)).map (Value.int k), setI_self _ _ _, ⟨by simp [Ty.size], .inr ⟨w.heap.size, n, z.cells, by simp, Nat.zero_le _, heap_new _ _, by simp, ?_, ?_, ?_⟩⟩, RzL_ints _⟩
    · simp only [maxLen]; omega
    · rw [← Array.length_toList, hz]; simp [Ty.size]
    · rw [hz]; simp [Ty.size]
  · simp only [RelV]
    exact ⟨w.heap.size, n, setI_self _ _ _, rfl⟩

theorem sliceArr_op (hP : TabOK P TT) (h : HRel X keep w0 ι C w) {tt b : Nat} {vx : Value} (hx : RelV w (okb X w ι C) ι (.pa b) vx) {lo hi : Option AV} {vlo vhi : Option Value}
    (hlo : ∀ x, lo = some x → ∃ v, vlo = some v ∧ RelV w (okb X w ι C) ι x v) (hlo' : lo = none → vlo = none) (hhi : ∀ x, hi = some x → ∃ v, vhi = some v ∧ RelV w (okb X w ι C) ι x v) (hhi' : hi = none → vhi = none)
    {r : AV} (hs : sliceArr TT tt C b lo hi some = some r) : ∃ v, (Instr.sliceAt tt vx vlo vhi none).run P w = .ok v w ∧ RelV w (okb X w ι C) ι r v := by
  unfold sliceArr at hs
  split at hs
  · rename_i m el t e xs rw hk hb
    split at hs
    · rename_i hc
      simp only [Bool.and_eq_true] at hc
      obtain ⟨⟨c1, c2⟩, c3⟩ := hc
      split at hs
      · rename_i hm
        obtain ⟨tel, hel⟩ := Option.isSome_iff_exists.1 c1
        have hu : P.underlying tt = some (.array m el) := by
          unfold kindOf at hk
          cases htd : TT tt with
          | none => rw [htd] at hk; cases hk
          | some td =>
            rw [htd] at hk
            have := (hP tt td htd).und
            rw [show td.k = .ar m el from hk] at this
            exact this
        simp only [RelV] at hx
        obtain ⟨g, n, e1, rfl⟩ := hx
        have hnm : n = m := by
          have hB := h.bl b
          rw [hb] at hB
          cases rw with
          | false =>
            obtain ⟨v, q1, _, A, c, q2, _⟩ := hB
            rw [e1] at q1
            injection q1 with q1
            subst q1
            injection q2 with q2 _
            injection q2 with _ q2 _
            omega
          | true =>
            obtain ⟨v, cs, q1, q2, _⟩ := hB
            rw [e1] at q1
            injection q1 with q1
            subst q1
            rcases q2.2 with ⟨q3, _⟩ | ⟨g', cap, cur, q3, _⟩
            · cases q3
            · injection q3 with _ q3 _
              omega
        subst hnm
        have hsz : t.size = sizeT TT el := Nat.eq_of_beq_eq_true c2
        have c3 : 0 < n := Nat.le_of_ble_eq_true c3
        obtain ⟨l, u, hlu, hun, hrun, hr⟩ := sliceAt_sound (P := P) (bs := false) (Nat.le_refl n) hlo hlo' hhi hhi' hs
        refine ⟨.slice (some (if n = l then ⟨g, 0, none⟩ else (⟨g, 0, none⟩ : Addr).add (l * sizeT TT el))) (u - l) (n - l), ?_, ?_⟩
        · simp [Instr.sliceAt, Instr.sureAddr, run_und hu, hrun, run_size hP hel, sizeT, hel]
        · have key : ∀ len, len = u - l → RelV w (okb X w ι C) ι (.rs b t.size l len) (.slice (some (if n = l then ⟨g, 0, none⟩ else (⟨g, 0, none⟩ : Addr).add (l * sizeT TT el))) (u - l) (n - l)) := by
            rintro len rfl
            simp only [RelV]
            refine ⟨_, n, n, _, _, e1, by omega, rfl, by omega, fun hp => ⟨g, rfl, ?_⟩, fun h0 => ?_⟩
            · rw [if_neg (by omega), addr_add, hsz, Nat.zero_add]
            · subst h0
              rw [if_neg (by omega), addr_add]
              simp
          rcases hr with ⟨rfl, rfl, rfl⟩ | ⟨l', rfl, rfl, rfl⟩ | ⟨l', u', rfl, rfl, rfl⟩
          · exact key _ rfl
          · exact key _ rfl
          · exact key _ rfl
      · cases hs
    · cases hs
  · cases hs

theorem arrAt_op (hP : TabOK P TT) (h : HRel X keep w0 ι C w) {tt m e b : Nat} {td : TD} (ht : TT tt = some td) (hk : td.k = .ar m e) {k : IntKind} {i : Int} {vx : Value} (hx : RelV w (okb X w ι C) ι (.pa b) vx) {r : AV}
    (hr : arrAt TT C m e b i some = some r) : ∃ v, (Instr.indexAt tt vx (.int k i)).run P w = .ok v w ∧ RelV w (okb X w ι C) ι r v := by
  unfold arrAt at hr
  split at hr
  · rename_i t e' xs rw hb
    split at hr
    · rename_i hc
      rw [Bool.and_eq_true] at hc
      obtain ⟨te, he⟩ := Option.isSome_iff_exists.1 hc.1
      have hsz : t.size = sizeT TT e := Nat.eq_of_beq_eq_true hc.2
      split at hr
      · rename_i d1
        split at hr
        · rename_i d2
          split at hr
          · rename_i d3
            injection hr with hr
            subst hr
            have hu := (hP tt td ht).und
            rw [hk] at hu
            have hu : P.underlying tt = some (.array m e) := hu
            simp only [RelV] at hx
            obtain ⟨g, n, e1, rfl⟩ := hx
            have hnx : n = xs.length := by
              have hB := h.bl b
              rw [hb] at hB
              cases rw with
              | false =>
                obtain ⟨v, q1, _, A, c, q2, _⟩ := hB
                rw [e1] at q1
                injection q1 with q1
                subst q1
                injection q2 with q2 _
                injection q2 with _ q2 _
              | true =>
                obtain ⟨v, cs, q1, q2, _⟩ := hB
                rw [e1] at q1
                injection q1 with q1
                subst q1
                rcases q2.2 with ⟨q3, _⟩ | ⟨g', cap, cur, q3, _⟩
                · cases q3
                · injection q3 with _ q3 _
            obtain ⟨j, rfl⟩ : ∃ j : Nat, i = (j : Int) := ⟨i.toNat, (Int.toNat_of_nonneg d1).symm⟩
            have hj : j < m := by omega
            refine ⟨.pointer (some ⟨g, j * sizeT TT e, none⟩), ?_, ?_⟩
            · simp [Instr.indexAt, asIntOf, run_und hu, Instr.sureAddr, hj, run_size hP he, sizeT, he, addr_add]
            · simp only [RelV]
              refine ⟨g, n, n, e1, by rw [hnx, Int.toNat_natCast]; omega, ?_⟩
              rw [hsz, Int.toNat_natCast, Nat.add_zero]
          · cases hr
        · cases hr
      · cases hr
    · cases hr
  · cases hr

/-- A string's bytes, read alone. -/
theorem strBytes_op (h : HRel X keep w0 ι C w) {nb : Nat} (hn : ι nb = none) {src dst e : Nat} (hs : P.underlying src = some .string) (hd : P.underlying dst = some (.slice e)) (he : P.underlying e = some (.int .u8)) (s : List UInt8) :
    ∃ v w', (convert src dst (.string ⟨s.toArray⟩)).run P w = .ok v w' ∧ Out X keep w0 ι C w nb ⟨.rf nb, [], [.row (.int .u8) e (s.map fun b => (b.toNat : Int)) false]⟩ v w' := by
  have hrun := run_bytes_of_string (P := P) w src dst e ⟨s.toArray⟩ hs hd he
  have hcap := grownCap_ge w (⟨s.toArray⟩ : ByteArray).size 0 e
  obtain ⟨cap, hc⟩ : ∃ cap, cap = grownCap w (⟨s.toArray⟩ : ByteArray).size 0 e := ⟨_, rfl⟩
  rw [← hc, size_mk] at hrun hcap
  obtain ⟨W, hW⟩ : ∃ W, W = w.drew.alloc (.cells (bytesRow ⟨s.toArray⟩ cap) e ((bytesRow ⟨s.toArray⟩ cap).size, (bytesRow ⟨s.toArray⟩ cap).size + 1)) := ⟨_, rfl⟩
  rw [← hW] at hrun
  have hg : w.grownBy W none := by
    have g1 : w.grownBy w.drew none := ⟨rfl, rfl, rfl, Nat.le_refl _, fun _ _ _ => rfl⟩
    have g2 : w.drew.grownBy W none := by rw [hW]; exact World.grownBy_alloc _ _ _
    exact ⟨g2.os, g2.tape, g2.output, g2.size, fun k hk _ => g2.block k hk (by simp)⟩
  have hnew : W.heap[w.heap.size]? = some (.cells (bytesRow ⟨s.toArray⟩ cap) e ((bytesRow ⟨s.toArray⟩ cap).size, (bytesRow ⟨s.toArray⟩ cap).size + 1)) := by
    rw [hW]; exact heap_new w.drew _
  refine ⟨_, W, hrun, Out.new (v := .slice (some ⟨w.heap.size, 0, none⟩) s.length cap) (h.new hn hg ?_ ?_) ?_⟩
  · intro g q
    unfold bk at q
    rw [setC_self] at q
    cases q
  · intro hext
    have hokn : okb X W (setI ι nb (.slice (some ⟨w.heap.size, 0, none⟩) s.length cap)) (setC C nb (.row (.int .u8) e (s.map fun b => (b.toNat : Int)) false)) w.heap.size := by
      refine ⟨(Array.getElem?_eq_some_iff.1 hnew).1, ?_, fun hx => ?_⟩
      · rintro ⟨k, hk⟩
        by_cases hkn : k = nb
        · subst hkn
          unfold bk at hk
          rw [setC_self] at hk
          cases hk
        · rw [bk_congr (setC_ne hkn) (setI_ne hkn)] at hk
          have := h.lt ⟨k, hk⟩
          omega
      · have h1 := h.xl _ hx
        have h2 := h.fr.size
        omega
    refine ⟨_, setI_self _ _ _, ⟨rfl, rfl⟩, some ⟨w.heap.size, 0, none⟩, cap, by simp, by simpa using hcap, fun _ => ⟨w.heap.size, 0, (s.map fun b => (b.toNat : Int)).map (Value.int .u8), rfl, hokn, RzL_ints _, fun j u hu => ?_⟩⟩
    have hb : W.cell? ⟨w.heap.size, 0 + j, none⟩ = (bytesRow ⟨s.toArray⟩ cap)[j]? := by
      rw [Nat.zero_add]
      unfold World.cell?
      simp [hnew]
    rw [hb]
    unfold bytesRow
    rw [← Array.getElem?_toList]
    rw [Array.toList_append]
    have hj : j < s.length := by
      have := (List.getElem?_eq_some_iff.1 hu).1
      simpa using this
    rw [List.getElem?_append_left (by simpa using hj)]
    rw [← hu]
    simp
    rfl
  · simp only [RelV]
    exact ⟨setI_self _ _ _, _, _, _, rfl⟩
theorem equalIn_if0 {n t : Nat} {ms : Array _} (h : P.underlying t = some (.interface ms)) : (Op.equalIn (n + 1) t .nilIface .nilIface).run P w = .ok true w := by simp [Op.equalIn, run_und h]
theorem equalIn_if1 {n t : Nat} {ms : Array _} (h : P.underlying t = some (.interface ms)) {a : TypeId} {b : Value} : (Op.equalIn (n + 1) t (.iface a b) .nilIface).run P w = .ok false w := by simp [Op.equalIn, run_und h]
theorem equal_if0 {t : Nat} {ms : Array _} (h : P.underlying t = some (.interface ms)) : (Op.equal t .nilIface .nilIface).run P w = .ok true w := equalIn_if0 (n := 9999) h
theorem equal_if1 {t : Nat} {ms : Array _} (h : P.underlying t = some (.interface ms)) {a : TypeId} {b : Value} : (Op.equal t (.iface a b) .nilIface).run P w = .ok false w := equalIn_if1 (n := 9999) h

/-- An interface held against nil. -/
theorem eqIf_sound (hP : TabOK P TT) {ok : Nat → Prop} {tt : Nat} {op : BinOp} {x y : Operand} {a : AV} {va : Value} {ev : Act} (ha : RelV w ok ι a va) {b : Bool} (hb : eqIf (kindOf TT tt) op a y = some b) :
    ∃ v, (do eqGuard op tt x y va (ev.eval y); binOp op tt va (ev.eval y) : Sem Value).run P w = .ok v w ∧ RelV w ok ι (.d .bool b) v := by
  unfold eqIf at hb
  split at hb
  · rename_i k a' y' c hk
    have hu : ∃ ms, P.underlying tt = some (.interface ms) := by
      unfold kindOf at hk
      cases htd : TT tt with
      | none => rw [htd] at hk; cases hk
      | some td =>
        rw [htd] at hk
        have := (hP tt td htd).und
        rw [show td.k = .ifc from hk] at this
        exact this
    obtain ⟨ms, hu⟩ := hu
    simp only [RelV] at ha
    obtain ⟨v, e, hv⟩ := ha
    injection e with e _
    subst e
    have hn : ev.eval (.const .nilIface) = .nilIface := rfl
    rw [hn]
    cases c with
    | true =>
      have hv : va = .nilIface := hv
      subst hv
      split at hb
      · injection hb with hb
        subst hb
        exact ⟨.bool true, by simp [eqGuard, binOp, equal_if0 hu], rel_bool.2 rfl⟩
      · injection hb with hb
        subst hb
        exact ⟨.bool false, by simp [eqGuard, binOp, equal_if0 hu], rel_bool.2 rfl⟩
      · cases hb
    | false =>
      obtain ⟨t, z, hv⟩ := (show ∃ t z, va = .iface t z from hv)
      subst hv
      split at hb
      · injection hb with hb
        subst hb
        exact ⟨.bool false, by simp [eqGuard, binOp, equal_if1 hu], rel_bool.2 rfl⟩
      · injection hb with hb
        subst hb
        exact ⟨.bool true, by simp [eqGuard, binOp, equal_if1 hu], rel_bool.2 rfl⟩
      · cases hb
  · cases hb
end
end Go.Proofs.Rf
/- Rf, part k: an operation of the abstract evaluator, and the model's. -/
namespace Go.Proofs.Rf
open Go Go.RowKit

/-- What is asked of a contract in the table of calls. -/
structure CallOK (P : Program) (f : Nat) (co : CallO) : Prop where
  fn : ∃ fn, P.funcs[f]? = some fn ∧ (fn.name == "runtime.NumGoroutine") = false ∧ fn.body.isNone = false
  run : ∀ (X keep : Nat → Prop) (w0 w : World) (ι : Nat → Option Value) (C : Nat → Blk) (nb : Nat) (args : List AV) (vs : List Value) (e : Eff), HRel X keep w0 ι C w → RelL w (okb X w ι C) ι args vs →
    co args C nb Eff some = some e → (∀ k, nb ≤ k → k < nb + e.new.length → ι k = none) → Calls P f vs.toArray w fun en w' => ∃ v, en = .returned v ∧ Out X keep w0 ι C w nb e v w'
  nat : ∀ (args : List AV) (C : Nat → Blk) (nb : Nat) (R : Type) (K : Eff → Option R), co args C nb R K = (co args C nb Eff some).bind K

/-- .. of a function without a body, which the model knows. -/
structure ExtOK (P : Program) (f : Nat) (co : CallO) : Prop where
  run : ∀ (X keep : Nat → Prop) (w0 w : World) (ι : Nat → Option Value) (C : Nat → Blk) (nb : Nat) (args : List AV) (vs : List Value) (e : Eff), HRel X keep w0 ι C w → RelL w (okb X w ι C) ι args vs →
    co args C nb Eff some = some e → (∀ k, nb ≤ k → k < nb + e.new.length → ι k = none) → ∃ v w', (callFunc f vs.toArray).run P w = .ok (.value v) w' ∧ Out X keep w0 ι C w nb e v w'
  nat : ∀ (args : List AV) (C : Nat → Blk) (nb : Nat) (R : Type) (K : Eff → Option R), co args C nb R K = (co args C nb Eff some).bind K

def AnyOK (P : Program) (f : Nat) (co : CallO) : Prop := CallOK P f co ∨ ExtOK P f co

instance {P : Program} {f : Nat} {co : CallO} : Coe (CallOK P f co) (AnyOK P f co) := ⟨.inl⟩

theorem AnyOK.nat {P : Program} {f : Nat} {co : CallO} (h : AnyOK P f co) (args : List AV) (C : Nat → Blk) (nb : Nat) (R : Type) (K : Eff → Option R) : co args C nb R K = (co args C nb Eff some).bind K := by
  rcases h with h | h
  · exact h.nat ..
  · exact h.nat ..

def CallsOK (P : Program) (Δ : Nat → Option CallO) : Prop := ∀ f co, Δ f = some co → AnyOK P f co

section
variable {X keep : Nat → Prop} {w0 w : World} {ι : Nat → Option Value} {C : Nat → Blk} {P : Program} {TT : Tab} {Δ : Nat → Option CallO}

theorem RelL_map {ok : Nat → Prop} {T : Nat → AV} {a : Act} (hT : ∀ t, RelV w ok ι (T t) (a.tmps.getD t undef)) : ∀ l : List Operand, RelL w ok ι (l.map (ev T)) (l.map a.eval)
  | [] => RelL_nil.2 rfl
  | x :: r => RelL_cons.2 ⟨_, _, rfl, ev_rel hT x, RelL_map hT r⟩

theorem df_ne {a : AV} (h : a.df = true) : a ≠ .un ∧ a ≠ .ud := by constructor <;> rintro rfl <;> simp [AV.df] at h

/-- A row of bytes made a string. -/
theorem conv_bytes {ok : Nat → Prop} {src dst e : Nat} {xs : List Int} {vx : Value} (hx : Rz w ok (.sl (.int .u8)) xs [vx]) (hs : P.underlying src = some (.slice e)) (he : P.underlying e = some (.int .u8)) (hd : P.underlying dst = some .string) :
    (convert src dst vx).run P w = .ok (.string ⟨(xs.map fun n : Int => UInt8.ofNat n.toNat).toArray⟩) w := by
  obtain ⟨A, c, e1, e2, e3⟩ := hx
  have e1 : vx = .slice A xs.length c := by injection e1
  subst e1
  rw [run_convert_bytes_string w src dst e A xs.length c hs he hd]
  cases A with
  | none =>
    have hl : xs = [] := by
      rcases Nat.eq_zero_or_pos xs.length with h | h
      · exact List.length_eq_zero_iff.1 h
      · obtain ⟨g, o, cs, q, _⟩ := e3 h
        cases q
    subst hl
    simp [Conv.bytesToString]
    rfl
  | some a =>
    have hl : (loadCells a xs.length).run P w = .ok (xs.map (Value.int .u8)).toArray w := by
      rcases Nat.eq_zero_or_pos xs.length with h | h
      · have h := List.length_eq_zero_iff.1 h
        subst h
        have := run_loadCells_list (P := P) w a [] (fun j v hj => by simp at hj)
        simpa using this
      · obtain ⟨g, o, cs, q1, q2, q3, q4⟩ := e3 h
        injection q1 with q1
        subst q1
        have hc := RzL_bytes q3
        have := run_loadCells_list (P := P) w ⟨g, o, none⟩ cs (fun j v hj => by rw [addr_add]; exact q4 j v hj)
        rw [hc] at this
        simpa using this
    rw [run_bytesToString w a xs.length c xs hl, foldl_push_bytes]
    simp [ByteArray.empty, ByteArray.emptyWithCapacity]
    rfl

/-- The next rune of a string. -/
theorem next_op (h : HRel X keep w0 ι C w) {nb b pos : Nat} {s : List UInt8} {vx : Value} {ty : TypeId} (hx : RelV w (okb X w ι C) ι (.pt b 0) vx) (hb : C b = .it s pos) :
    (pos < s.length → ∃ v w', (Instr.next vx true ty).run P w = .ok v w' ∧
      Out X keep w0 ι C w nb ⟨.tp [.d .bool true, .d (.int .i64) (pos : Int), .d (.int .i32) ((Utf8.decode ⟨s.toArray⟩ pos).1 : Int)], [(b, .it s (pos + (Utf8.decode ⟨s.toArray⟩ pos).2))], []⟩ v w') ∧
    (¬ pos < s.length → ∃ v, (Instr.next vx true ty).run P w = .ok v w ∧ RelV w (okb X w ι C) ι (.tp [.d .bool false]) v) := by
  have hB := h.bl b
  rw [hb] at hB
  obtain ⟨g, h1, h2⟩ := hB
  simp only [RelV] at hx
  obtain ⟨g', h3, h4⟩ := hx
  rw [h1] at h3
  injection h3 with h3
  injection h3 with h3
  injection h3 with h3
  injection h3 with h3
  subst h3; subst h4
  have hgo : (getObj g).run P w = .ok (.stringIter ⟨s.toArray⟩ pos) w := by simp [getObj, Sem.run, h2]
  refine ⟨fun hp => ?_, fun hp => ?_⟩
  · have hset : (setObj g (.stringIter ⟨s.toArray⟩ (pos + (Utf8.decode ⟨s.toArray⟩ pos).2))).run P w = .ok () { w with heap := w.heap.setIfInBounds g (.stringIter ⟨s.toArray⟩ (pos + (Utf8.decode ⟨s.toArray⟩ pos).2)) } := by
      simp [setObj, Sem.run, h2]
    have hp' : pos < (⟨s.toArray⟩ : ByteArray).size := by rw [size_mk]; exact hp
    refine ⟨.tuple #[.bool true, goInt pos, .int .i32 (Utf8.decode ⟨s.toArray⟩ pos).1], { w with heap := w.heap.setIfInBounds g (.stringIter ⟨s.toArray⟩ (pos + (Utf8.decode ⟨s.toArray⟩ pos).2)) }, ?_, ?_⟩
    · simp only [Instr.next, Sem.run_bind, hgo, Result.andThen_ok, hp', if_true, hset, Sem.run_pure]
    · have hlt : g < w.heap.size := (Array.getElem?_eq_some_iff.1 h2).1
      have hbk : bk ι C b = some g := by unfold bk; rw [hb, h1]
      have hbk' : bk ι (setC C b (.it s (pos + (Utf8.decode ⟨s.toArray⟩ pos).2))) b = some g := by unfold bk; rw [setC_self, h1]
      have := h.step (C' := setC C b (.it s (pos + (Utf8.decode ⟨s.toArray⟩ pos).2))) (ι' := ι) (w' := { w with heap := w.heap.setIfInBounds g (.stringIter ⟨s.toArray⟩ (pos + (Utf8.decode ⟨s.toArray⟩ pos).2)) }) (fun j => j = b) rfl rfl rfl (by simp)
        (fun j hj => setC_ne hj) (fun _ _ q => q) (fun _ _ => rfl) (fun k b' hk q => by
          subst hk
          rw [hbk'] at q
          injection q with q
          subst q
          exact .inr ⟨_, rfl, hbk⟩) (fun k k' b' hk hk' _ _ => hk.trans hk'.symm) (fun b' hb' hk => by
            have hne : g ≠ b' := by rintro rfl; exact hk b rfl hbk
            simp [hne]) (fun hext k hk => by
          subst hk
          rw [setC_self]
          exact ⟨g, h1, by simp [hlt]⟩)
      refine ⟨ι, this.1, this.2, ?_, fun _ _ => rfl⟩
      simp only [RelV]
      exact ⟨[.bool true, goInt pos, .int .i32 (Utf8.decode ⟨s.toArray⟩ pos).1], rfl, RelL_cons.2 ⟨_, _, rfl, rel_bool.2 rfl, RelL_cons.2 ⟨_, _, rfl, rel_int.2 rfl, RelL_cons.2 ⟨_, _, rfl, rel_int.2 rfl, RelL_nil.2 rfl⟩⟩⟩⟩
  · have hp' : ¬ pos < (⟨s.toArray⟩ : ByteArray).size := by rw [size_mk]; exact hp
    refine ⟨.tuple #[.bool false], ?_, ?_⟩
    · simp only [Instr.next, Sem.run_bind, hgo, Result.andThen_ok, hp', if_false, Sem.run_pure]
    · simp only [RelV]
      exact ⟨[.bool false], rfl, RelL_cons.2 ⟨_, _, rfl, rel_bool.2 rfl, RelL_nil.2 rfl⟩⟩

theorem lenOf_sound (h : HRel X keep w0 ι C w) {x : AV} {vx : Value} (hx : RelV w (okb X w ι C) ι x vx) {n : Int} (hl : lenOf C x = some n) : ∃ (A : Option Addr) (m c : Nat), vx = .slice A m c ∧ n = m := by
  unfold lenOf at hl
  split at hl
  · injection hl with hl
    subst hl
    simp only [RelV] at hx
    obtain ⟨A, c, e, _⟩ := hx
    injection e with e _
    exact ⟨A, _, c, e, rfl⟩
  · injection hl with hl
    subst hl
    simp only [RelV] at hx
    exact ⟨none, 0, 0, hx, rfl⟩
  · split at hl
    · rename_i b t e xs rw hb
      injection hl with hl
      subst hl
      obtain ⟨A, c, e1, _⟩ := row_cells h hb
      simp only [RelV] at hx
      rw [e1] at hx
      injection hx.1 with q
      exact ⟨A, _, c, q.symm, rfl⟩
    · cases hl
  · injection hl with hl
    subst hl
    simp only [RelV] at hx
    obtain ⟨A, n, c, A', c', _, _, e, _⟩ := hx
    exact ⟨A', _, c', e, rfl⟩
  · cases hl

theorem places_sound (hP : TabOK P TT) : ∀ (fl : List Field), (fl.map (fun f => (f.offset, f.type))).all (fun p => (TT p.2).isSome) = true →
    fl.mapM (fun f => (P.info? f.type).map fun i => (f.offset, i.size)) = some (fl.map fun f => (f.offset, sizeT TT f.type))
  | [], _ => rfl
  | f :: r, h => by
    simp only [List.map_cons, List.all_cons, Bool.and_eq_true] at h
    obtain ⟨td, htd⟩ := Option.isSome_iff_exists.1 h.1
    obtain ⟨i, z, i1, i2, _⟩ := (hP f.type td htd).ex
    have ih := places_sound hP r h.2
    simp [List.mapM_cons, i1, i2, ih, sizeT, htd]

theorem build_st (hP : TabOK P TT) {ok : Nat → Prop} {tt : Nat} {td : TD} (htd : TT tt = some td) {fs : List (Nat × Nat)} (hk : td.k = .st fs) {T : Nat → AV} {a : Act} (hT : ∀ t, RelV w ok ι (T t) (a.tmps.getD t undef)) {parts : Array (Nat × Operand)}
    (hc : (fs.all (fun p => (TT p.2).isSome) && parts.toList.all (fun p => (ev T p.2).df)) = true) {cs : List AV}
    (hf : fillC (placeSt TT fs) td.zero (parts.toList.map fun p => (p.1, ev T p.2)) = some cs) :
    ∃ v, (Instr.build tt (parts.map fun (i, x) => (i, a.eval x))).run P w = .ok v w ∧ RelV w ok ι (.ag cs) v := by
  rw [Bool.and_eq_true] at hc
  obtain ⟨c1, c2⟩ := hc
  obtain ⟨i, z, i1, i2, i3, i4, i5, i6, i7⟩ := (hP tt td htd).ex
  have hu := (hP tt td htd).und
  rw [hk] at hu
  obtain ⟨fields, hu, hfs⟩ := hu
  have hpl : placeSt TT fs = fun i => (fields.toList.map fun f => (f.offset, sizeT TT f.type)).toArray[i]? := by
    funext i
    rw [← hfs]
    simp only [placeSt, List.getElem?_map, List.getElem?_toArray]
    cases fields.toList[i]? <;> rfl
  rw [hpl] at hf
  obtain ⟨us', r1, r2⟩ := fill_sound hT parts.toList td.zero z.cells cs (i5 _ _ _) (fun p hp => df_ne (List.all_eq_true.1 c2 p hp)) hf
  refine ⟨.agg us', run_build w tt _ us' ?_, ?_⟩
  · have hp := places_sound hP fields.toList (by rw [hfs]; exact c1)
    have hparts : (parts.map fun (i, x) => (i, a.eval x)).toList = parts.toList.map fun p => (p.1, a.eval p.2) := by rw [Array.toList_map]
    simp only [Program.built, i1, hu, i4, hp, hparts, r1]
  · simp only [RelV]
    exact ⟨us'.toList, by simp, r2⟩

theorem build_ar (hP : TabOK P TT) {ok : Nat → Prop} {tt m e : Nat} {td : TD} (htd : TT tt = some td) (hk : td.k = .ar m e) {T : Nat → AV} {a : Act} (hT : ∀ t, RelV w ok ι (T t) (a.tmps.getD t undef)) {parts : Array (Nat × Operand)}
    (hc : ((TT e).isSome && parts.toList.all (fun p => (ev T p.2).df)) = true) {cs : List AV}
    (hf : fillC (fun i => some (i * sizeT TT e, sizeT TT e)) td.zero (parts.toList.map fun p => (p.1, ev T p.2)) = some cs) :
    ∃ v, (Instr.build tt (parts.map fun (i, x) => (i, a.eval x))).run P w = .ok v w ∧ RelV w ok ι (.ag cs) v := by
  rw [Bool.and_eq_true] at hc
  obtain ⟨c1, c2⟩ := hc
  obtain ⟨te, hte⟩ := Option.isSome_iff_exists.1 c1
  obtain ⟨i, z, i1, i2, i3, i4, i5, i6, i7⟩ := (hP tt td htd).ex
  obtain ⟨ie, ze, j1, j2, _⟩ := (hP e te hte).ex
  have hu := (hP tt td htd).und
  rw [hk] at hu
  have hu : P.underlying tt = some (.array m e) := hu
  obtain ⟨us', r1, r2⟩ := fill_sound hT parts.toList td.zero z.cells cs (i5 _ _ _) (fun p hp => df_ne (List.all_eq_true.1 c2 p hp)) hf
  refine ⟨.agg us', run_build w tt _ us' ?_, ?_⟩
  · have hparts : (parts.map fun (i, x) => (i, a.eval x)).toList = parts.toList.map fun p => (p.1, a.eval p.2) := by rw [Array.toList_map]
    rw [show sizeT TT e = ie.size by simp [sizeT, hte, j2]] at r1
    simp only [Program.built, i1, hu, i4, j1, hparts, r1]
  · simp only [RelV]
    exact ⟨us'.toList, by simp, r2⟩

theorem isSlT_sound (hP : TabOK P TT) {tt : Nat} : isSlT TT tt = true → ∃ e, P.underlying tt = some (.slice e) := by
  intro h
  unfold isSlT at h
  split at h
  · rename_i td htd
    split at h
    · rename_i e hk
      have := (hP tt td htd).und
      rw [hk] at this
      exact ⟨e, this⟩
    · cases h
  · cases h

theorem bin_nat {R : Type} (bt st : Bool) (op : BinOp) (a b : AV) (K : AV → Option R) : bin bt st op a b K = (bin bt st op a b some).bind K := by
  unfold bin
  repeat' split
  all_goals rfl

theorem uny_nat {R : Type} (op : UnOp) (a : AV) (K : AV → Option R) : uny op a K = (uny op a some).bind K := by
  unfold uny
  repeat' split
  all_goals rfl

theorem sliceGo_nat {R : Type} (n l h : Int) (sub : AV) (K : AV → Option R) : sliceGo n l h sub K = (sliceGo n l h sub some).bind K := by
  unfold sliceGo
  repeat' split
  all_goals rfl

theorem sliceAt_nat {R : Type} (n : Int) (lo hi : Option AV) (cut : Int → Int → AV) (full : Int → AV) (all : AV) (K : AV → Option R) : sliceAt n lo hi cut full all K = (sliceAt n lo hi cut full all some).bind K := by
  unfold sliceAt
  split
  · rfl
  · exact sliceGo_nat ..
  · exact sliceGo_nat ..
  · exact sliceGo_nat ..
  · rfl

theorem sliceOp_nat {R : Type} (tt : Nat) (C : Nat → Blk) (v : AV) (lo hi : Option AV) (K : AV → Option R) : sliceOp TT tt C v lo hi K = (sliceOp TT tt C v lo hi some).bind K := by
  unfold sliceOp
  split
  · split
    · exact sliceAt_nat ..
    · split
      · exact sliceAt_nat ..
      · rfl
    · split
      · split
        · exact sliceAt_nat ..
        · rfl
      · rfl
    · split
      · exact sliceAt_nat ..
      · rfl
    · rfl
  · rfl

theorem sliceArr_nat {R : Type} (tt : Nat) (C : Nat → Blk) (b : Nat) (lo hi : Option AV) (K : AV → Option R) : sliceArr TT tt C b lo hi K = (sliceArr TT tt C b lo hi some).bind K := by
  unfold sliceArr
  split
  · split
    · split
      · exact sliceAt_nat ..
      · rfl
    · rfl
  · rfl

theorem arrAt_nat {R : Type} (C : Nat → Blk) (m e b : Nat) (n : Int) (K : AV → Option R) : arrAt TT C m e b n K = (arrAt TT C m e b n some).bind K := by
  unfold arrAt
  repeat' split
  all_goals rfl

theorem amongF_nat (hΔ : CallsOK P Δ) {R : Type} (args : List AV) (C : Nat → Blk) (nb : Nat) (x : Int) (K : Eff → Option R) : ∀ l, amongF Δ args C nb x K l = (amongF Δ args C nb x some l).bind K
  | [] => rfl
  | g :: r => by
    simp only [amongF]
    split
    · split
      · rename_i co hco
        exact (hΔ _ co hco).nat ..
      · rfl
    · exact amongF_nat hΔ args C nb x K r

theorem amongF_some {args : List AV} {C : Nat → Blk} {nb : Nat} {x : Int} {e : Eff} : ∀ {l : List Nat}, amongF Δ args C nb x some l = some e → ∃ (g : Nat) (co : CallO), x = ((g + 1 : Nat) : Int) ∧ Δ g = some co ∧ co args C nb Eff some = some e
  | [], h => by cases h
  | g :: r, h => by
    simp only [amongF] at h
    split at h
    · rename_i hx
      split at h
      · rename_i co hco
        exact ⟨g, co, hx, hco, h⟩
      · cases h
    · exact amongF_some h

theorem idxAV_nat {R : Type} (C : Nat → Blk) (e : Nat) (n : Int) (x : AV) (K : AV → Option R) : idxAV TT C e n x K = (idxAV TT C e n x some).bind K := by
  unfold idxAV
  split
  · split
    · repeat' split
      all_goals rfl
    · rfl
  · repeat' split
    all_goals rfl
  · repeat' split
    all_goals rfl
  · rfl

theorem chain_nat {R : Type} (i b o sz : Nat) (x : Int) (K : AV → Option R) : ∀ n, chain i b o sz x K n = (chain i b o sz x some n).bind K := by
  intro n
  induction n generalizing i with
  | zero => rfl
  | succ n ih =>
    simp only [chain]
    split
    · rfl
    · exact ih _

theorem mapLook_nat {R : Type} {TT : Tab} (tt : Nat) (C : Nat → Blk) (x y : AV) (comma : Bool) (K : AV → Option R) : mapLook TT tt C x y comma K = (mapLook TT tt C x y comma some).bind K := by
  unfold mapLook
  repeat' split
  all_goals rfl

theorem mapSet_nat {R : Type} {TT : Tab} (tt : Nat) (C : Nat → Blk) (x y z : AV) (K : Eff → Option R) : mapSet TT tt C x y z K = (mapSet TT tt C x y z some).bind K := by
  unfold mapSet
  repeat' split
  all_goals rfl

theorem mapDel_nat {R : Type} {TT : Tab} (tt : Nat) (C : Nat → Blk) (x y : AV) (K : Eff → Option R) : mapDel TT tt C x y K = (mapDel TT tt C x y some).bind K := by
  unfold mapDel
  repeat' split
  all_goals rfl

theorem chainV_nat {R : Type} (i sz : Nat) (cs : List AV) (x : Int) (K : AV → Option R) : ∀ n, chainV i sz cs x K n = (chainV i sz cs x some n).bind K := by
  intro n
  induction n generalizing i with
  | zero => rfl
  | succ n ih =>
    simp only [chainV]
    split
    · rfl
    · exact ih _

theorem chainA_nat {R : Type} (TT : Tab) (e sz : Nat) (cs : List AV) (x : Int) (K : AV → Option R) : ∀ i n, chainA TT e sz cs x K i n = (chainA TT e sz cs x some i n).bind K := by
  intro i n
  induction n generalizing i with
  | zero => rfl
  | succ n ih =>
    simp only [chainA]
    split
    · split <;> rfl
    · exact ih _

theorem isBoolT_sound (hP : TabOK P TT) {tt : Nat} (h : isBoolT TT tt = true) : P.underlying tt = some .bool := by
  unfold isBoolT at h
  split at h
  · rename_i td htd
    split at h
    · rename_i hk
      have hu := (hP tt td htd).und
      rw [hk] at hu
      exact hu
    · cases h
  · cases h

theorem kindOf_str (hP : TabOK P TT) {tt : Nat} (h : kindOf TT tt = .str) : P.underlying tt = some .string := by
  unfold kindOf at h
  split at h
  · rename_i td htd
    have hu := (hP tt td htd).und
    rw [h] at hu
    exact hu
  · cases h

theorem kindOf_sl (hP : TabOK P TT) {tt e : Nat} (h : kindOf TT tt = .sl e) : P.underlying tt = some (.slice e) := by
  unfold kindOf at h
  split at h
  · rename_i td htd
    have hu := (hP tt td htd).und
    rw [h] at hu
    exact hu
  · cases h

theorem kindOf_mp (hP : TabOK P TT) {tt k e : Nat} (h : kindOf TT tt = .mp k e) : P.underlying tt = some (.map k e) := by
  unfold kindOf at h
  split at h
  · rename_i td htd
    have hu := (hP tt td htd).und
    rw [h] at hu
    exact hu
  · cases h

theorem runs_v {s : Sem Value} {Post : Value → World → Prop} (h : ∃ v w', s.run P w = .ok v w' ∧ Post v w') : Runs P (do pure (.value (← s))) w Post := by
  obtain ⟨v, w', h1, h2⟩ := h
  exact ⟨v, w', .inl (by simp [h1]), h2⟩
theorem runs_u {s : Sem Unit} {Post : Value → World → Prop} (h : ∃ w', s.run P w = .ok () w' ∧ Post undef w') : Runs P (do s; pure .skip) w Post := by
  obtain ⟨w', h1, h2⟩ := h
  exact ⟨undef, w', .inr ⟨by simp [h1], rfl⟩, h2⟩
theorem runs_pure {v : Value} {Post : Value → World → Prop} (h : Post v w) : Runs P (pure (.value v)) w Post := ⟨v, w, .inl rfl, h⟩

theorem evOp_sound (hP : TabOK P TT) (hΔ : CallsOK P Δ) (h : HRel X keep w0 ι C w) {T : Nat → AV} {a : Act} (hT : ∀ t, RelV w (okb X w ι C) ι (T t) (a.tmps.getD t undef)) {o : Oper} {nb : Nat} {e : Eff}
    (hev : evOp TT Δ o T C nb (R := Eff) some = some e) (hn : ∀ k, nb ≤ k → k < nb + e.new.length → ι k = none) {Q : Exit → Act → World → Prop} :
    o.wp P a w (fun a' w' => ∃ v, a' = a.put o.dst v ∧ Out X keep w0 ι C w nb e v w') Q := by
  unfold evOp at hev
  have hE := fun x => ev_rel (ok := okb X w ι C) hT x
  have hG := fun x => evG_rel h.gl hT x
  split at hev
  case h_1 x hop =>
    refine Runs.wp (Post := Out X keep w0 ι C w nb e) ?_ (fun v w' hv => ⟨v, rfl, hv⟩)
    unfold execOp
    rw [hop]
    exact runs_pure (Out.of_some h hev (hE x))
  case h_2 x hop =>
    refine Runs.wp (Post := Out X keep w0 ι C w nb e) ?_ (fun v w' hv => ⟨v, rfl, hv⟩)
    unfold execOp
    rw [hop]
    exact runs_pure (Out.of_some h hev (hE x))
  case h_3 c x y hop =>
    refine Runs.wp (Post := Out X keep w0 ι C w nb e) ?_ (fun v w' hv => ⟨v, rfl, hv⟩)
    unfold execOp
    rw [hop]
    split at hev
    · rename_i cb hc
      have h1 := hE c
      rw [hc, rel_bool] at h1
      refine ⟨if cb = true then a.eval x else a.eval y, w, .inl (by simp [h1, asBool]), ?_⟩
      split at hev
      · rename_i bx by' hx hy
        have h2 := hE x
        have h3 := hE y
        rw [hx, rel_bool] at h2
        rw [hy, rel_bool] at h3
        exact Out.of_some h hev (rel_bool.2 (by cases cb <;> simp [h2, h3]))
      · cases cb
        · exact Out.of_some h (by simpa using hev) (by simpa using hE y)
        · exact Out.of_some h (by simpa using hev) (by simpa using hE x)
    · cases hev
  case h_4 e0 hop =>
    refine Runs.wp (Post := Out X keep w0 ι C w nb e) ?_ (fun v w' hv => ⟨v, rfl, hv⟩)
    unfold execOp
    rw [hop]
    split at hev
    · rename_i td htd
      split at hev
      · rename_i n k ha
        injection hev with hev
        subst hev
        exact runs_v (allocArr_op hP h (hn nb (Nat.le_refl _) (by simp)) htd ha)
      · injection hev with hev
        subst hev
        exact runs_v (alloc_op hP h (hn nb (Nat.le_refl _) (by simp)) htd)
    · cases hev
  case h_5 e0 x hop =>
    refine Runs.wp (Post := Out X keep w0 ι C w nb e) ?_ (fun v w' hv => ⟨v, rfl, hv⟩)
    unfold execOp
    rw [hop]
    split at hev
    · split at hev
      · rename_i ta tb ht cs hx
        have h1 := hE x
        rw [hx] at h1
        split at hev
        · rename_i t f hnd
          injection hev with hev
          subst hev
          exact runs_v (node_op h h1 hnd)
        · cases hev
      · cases hev
    split at hev
    · cases hev
    · cases hev
    · rename_i n1 n2
      injection hev with hev
      subst hev
      exact runs_v (box_op h (hn nb (Nat.le_refl _) (by simp)) (hE x) n1 n2)
  case h_6 tt parts hop =>
    refine Runs.wp (Post := Out X keep w0 ι C w nb e) ?_ (fun v w' hv => ⟨v, rfl, hv⟩)
    unfold execOp
    rw [hop]
    split at hev
    · rename_i td htd
      split at hev
      · rename_i fs hk
        split at hev
        · rename_i hc
          split at hev
          · rename_i cs hf
            obtain ⟨v, r1, r2⟩ := build_st hP htd hk hT hc hf
            exact runs_v ⟨v, w, r1, Out.of_some h hev r2⟩
          · cases hev
        · cases hev
      · rename_i m e1 hk
        split at hev
        · rename_i hc
          split at hev
          · rename_i cs hf
            obtain ⟨v, r1, r2⟩ := build_ar hP htd hk hT hc hf
            exact runs_v ⟨v, w, r1, Out.of_some h hev r2⟩
          · cases hev
        · cases hev
      · cases hev
    · cases hev
  case h_7 tt len parts hop =>
    refine Runs.wp (Post := Out X keep w0 ι C w nb e) ?_ (fun v w' hv => ⟨v, rfl, hv⟩)
    unfold execOp
    rw [hop]
    split at hev
    · rename_i td htd
      split at hev
      · rename_i e1 hk
        split at hev
        · rename_i te hte
          split at hev
          · rename_i ty hty
            split at hev
            · rename_i xs f hp
              split at hev
              · rename_i hc
                injection hev with hev
                subst hev
                exact runs_v (buildSlice_op hP h (hn nb (Nat.le_refl _) (by simp)) htd hk hte hty hT hp hc)
              · cases hev
            · cases hev
          · cases hev
        · cases hev
      · cases hev
    · cases hev
  case h_8 tt x hop =>
    refine Runs.wp (Post := Out X keep w0 ι C w nb e) ?_ (fun v w' hv => ⟨v, rfl, hv⟩)
    unfold execOp
    rw [hop]
    split at hev
    · rename_i r hr
      obtain ⟨v, r1, r2⟩ := load_op hP h (hG x) hr
      exact runs_v ⟨v, w, r1, Out.of_some h hev r2⟩
    · cases hev
  case h_9 tt ad x hop =>
    refine Runs.wp (Post := Out X keep w0 ι C w nb e) ?_ (fun v w' hv => ⟨v, rfl, hv⟩)
    unfold execOp
    rw [hop]
    have ha := hE ad
    generalize ev T ad = av at hev ha
    cases av
    case pt b o' =>
      simp only at hev
      split at hev
      · rename_i cs hb
        split at hev
        · rename_i i r hcut
          split at hev
          · rename_i hc
            injection hev with hev
            subst hev
            exact runs_u (cut_store hP h ha (hE x) hb hcut (hn nb (Nat.le_refl _) (by simp)) hc)
          · cases hev
        · split at hev
          · rename_i hc
            injection hev with hev
            subst hev
            exact runs_u (store_box hP h ha (hE x) hb hc)
          · cases hev
      · cases hev
    case pe b sz i o' =>
      simp only at hev
      split at hev
      · rename_i t e1 xs hb
        split at hev
        · rename_i hc
          split at hev
          · rename_i y hp
            injection hev with hev
            subst hev
            exact runs_u (store_row hP h ha (hE x) hb hc hp)
          · cases hev
        · cases hev
      · cases hev
    all_goals cases hev
  case h_10 x hop =>
    refine Runs.wp (Post := Out X keep w0 ι C w nb e) ?_ (fun v w' hv => ⟨v, rfl, hv⟩)
    unfold execOp
    rw [hop]
    have hx := hE x
    split at hev
    · rename_i b o' hb
      rw [hb] at hx
      have h0 := hx
      simp only [RelV] at h0
      obtain ⟨g, _, h2⟩ := h0
      rw [h2] at hx
      simp only [h2]
      exact runs_pure (Out.of_some h hev hx)
    · rename_i b hb
      rw [hb] at hx
      have h0 := hx
      simp only [RelV] at h0
      obtain ⟨g, n, _, h2⟩ := h0
      rw [h2] at hx
      simp only [h2]
      exact runs_pure (Out.of_some h hev hx)
    · rename_i b s i o' hb
      rw [hb] at hx
      have h0 := hx
      simp only [RelV] at h0
      obtain ⟨g, n, c, _, _, h2⟩ := h0
      rw [h2] at hx
      simp only [h2]
      exact runs_pure (Out.of_some h hev hx)
    · rename_i cs hb
      rw [hb] at hx
      have h0 := hx
      simp only [RelV] at h0
      obtain ⟨g, o, us, h2, _⟩ := h0
      rw [h2] at hx
      simp only [h2]
      exact runs_pure (Out.of_some h hev hx)
    · rename_i ta tb t hb
      rw [hb] at hx
      split at hev
      · cases hev
      · rename_i hnil
        obtain ⟨h1, g, h2⟩ := tree_cells hx hnil
        rw [h2] at h1
        simp only [h2]
        exact runs_pure (Out.of_some h hev h1)
    · rename_i f cs hb
      rw [hb] at hx
      have h0 := hx
      simp only [RelV] at h0
      obtain ⟨us, h2, _⟩ := h0
      rw [h2] at hx
      simp only [h2]
      exact runs_pure (Out.of_some h hev hx)
    · rename_i f cs hb
      rw [hb] at hx
      have h0 := hx
      simp only [RelV] at h0
      obtain ⟨us, h2, _⟩ := h0
      rw [h2] at hx
      simp only [h2]
      exact runs_pure (Out.of_some h hev hx)
    · cases hev
  case h_11 op tt x y yt hop =>
    refine Runs.wp (Post := Out X keep w0 ι C w nb e) ?_ (fun v w' hv => ⟨v, rfl, hv⟩)
    unfold execOp
    rw [hop]
    have key : ∀ b, eqNil TT tt op (ev T x) (ev T y) = some b → some (⟨.d .bool b, [], []⟩ : Eff) = some e → Runs P (do pure (.value (← (do eqGuard op tt x y (a.eval x) (a.eval y); binOp op tt (a.eval x) (a.eval y) : Sem Value)))) w (Out X keep w0 ι C w nb e) := by
      intro b hb he
      obtain ⟨v, r1, r2⟩ := eqNil_sound (x := x) (y := y) hP (hE x) (hE y) hb
      exact runs_v ⟨v, w, r1, Out.of_some h he r2⟩
    split at hev
    · rename_i b hb
      obtain ⟨v, r1, r2⟩ := eqIf_sound (x := x) hP (hE x) hb
      exact runs_v ⟨v, w, r1, Out.of_some h hev r2⟩
    split at hev
    · rename_i b hb
      exact key b hb hev
    rename_i hnil
    have hev : ∃ r, bin (isBoolT TT tt) (isSlT TT tt) op (ev T x) (ev T y) some = some r ∧ (some (⟨r, [], []⟩ : Eff)) = some e := by
      have hnat := bin_nat (isBoolT TT tt) (isSlT TT tt) op (ev T x) (ev T y) (fun r => some (⟨r, [], []⟩ : Eff))
      rw [hnat] at hev
      cases hb : bin (isBoolT TT tt) (isSlT TT tt) op (ev T x) (ev T y) some with
      | none => rw [hb] at hev; cases hev
      | some r => rw [hb] at hev; exact ⟨r, rfl, hev⟩
    obtain ⟨r, h1, h2⟩ := hev
    obtain ⟨v, r1, r2⟩ := bin_sound (P := P) (t := tt) (x := x) (y := y) (isBoolT_sound hP) (isSlT_sound hP) (hE x) (hE y) h1
    exact runs_v ⟨v, w, r1, Out.of_some h h2 r2⟩
  case h_12 op xt x hop =>
    refine Runs.wp (Post := Out X keep w0 ι C w nb e) ?_ (fun v w' hv => ⟨v, rfl, hv⟩)
    unfold execOp
    rw [hop]
    have hev : ∃ r, uny op (ev T x) some = some r ∧ (some (⟨r, [], []⟩ : Eff)) = some e := by
      rw [uny_nat op (ev T x) (fun r => some (⟨r, [], []⟩ : Eff))] at hev
      cases hb : uny op (ev T x) some with
      | none => rw [hb] at hev; cases hev
      | some r => rw [hb] at hev; exact ⟨r, rfl, hev⟩
    obtain ⟨r, h1, h2⟩ := hev
    obtain ⟨v, r1, r2⟩ := uny_sound (P := P) (hE x) h1
    exact runs_v ⟨v, w, r1, Out.of_some h h2 r2⟩
  case h_13 src dst x hop =>
    refine Runs.wp (Post := Out X keep w0 ι C w nb e) ?_ (fun v w' hv => ⟨v, rfl, hv⟩)
    unfold execOp
    rw [hop]
    split at hev
    · rename_i ts td k n hts htd hx
      have h1 := hE x
      rw [hx, rel_int] at h1
      split at hev
      · rename_i k' hk
        have hu := (hP dst td htd).und
        rw [hk] at hu
        have hu : P.underlying dst = some (.int k') := hu
        obtain ⟨ds, hds⟩ : ∃ ds, P.underlying src = some ds := by
          have := (hP src ts hts).und
          cases hk2 : ts.k <;> rw [hk2] at this
          · exact ⟨_, this⟩
          · exact ⟨_, this⟩
          · exact ⟨_, this⟩
          · exact ⟨_, this⟩
          · exact ⟨_, this⟩
          · obtain ⟨fields, h3, _⟩ := this; exact ⟨_, h3⟩
          · exact ⟨_, this⟩
          · exact ⟨_, this⟩
          · exact ⟨_, this⟩
          · obtain ⟨ms, h3⟩ := this; exact ⟨_, h3⟩
          · obtain ⟨d, h3, _⟩ := this; exact ⟨_, h3⟩
        refine runs_v ⟨.int k' (k'.wrap n), w, ?_, Out.of_some h hev (rel_int.2 rfl)⟩
        rw [h1]
        simp [convert, run_und hds, run_und hu, Conv.intToInt]
      · rename_i hk
        have hu := (hP dst td htd).und
        rw [hk] at hu
        have hu : P.underlying dst = some .string := hu
        have hds : (P.underlying src).isSome = true := by
          have := (hP src ts hts).und
          cases hk2 : ts.k <;> rw [hk2] at this
          · exact Option.isSome_iff_exists.2 ⟨_, this⟩
          · exact Option.isSome_iff_exists.2 ⟨_, this⟩
          · exact Option.isSome_iff_exists.2 ⟨_, this⟩
          · exact Option.isSome_iff_exists.2 ⟨_, this⟩
          · exact Option.isSome_iff_exists.2 ⟨_, this⟩
          · obtain ⟨fields, h3, _⟩ := this; exact Option.isSome_iff_exists.2 ⟨_, h3⟩
          · exact Option.isSome_iff_exists.2 ⟨_, this⟩
          · exact Option.isSome_iff_exists.2 ⟨_, this⟩
          · exact Option.isSome_iff_exists.2 ⟨_, this⟩
          · obtain ⟨ms, h3⟩ := this; exact Option.isSome_iff_exists.2 ⟨_, h3⟩
          · obtain ⟨d, h3, _⟩ := this; exact Option.isSome_iff_exists.2 ⟨_, h3⟩
        refine runs_v ⟨.string (Utf8.encode n), w, ?_, Out.of_some h hev (rel_str.2 (by unfold encR; simp))⟩
        rw [h1]
        exact run_convert_int_string w src dst _ n hds hu
      · cases hev
    · rename_i ts td s hts htd hx
      have h1 := hE x
      rw [hx, rel_str] at h1
      split at hev
      · rename_i e1 hk1 hk2
        split at hev
        · rename_i hk3
          split at hev
          · injection hev with hev
            subst hev
            have hu1 : P.underlying src = some .string := by
              have := (hP src ts hts).und
              rw [hk1] at this
              exact this
            have hu2 : P.underlying dst = some (.slice e1) := by
              have := (hP dst td htd).und
              rw [hk2] at this
              exact this
            have hu3 : P.underlying e1 = some (.int .u8) := by
              unfold kindOf at hk3
              cases hte : TT e1 with
              | none => rw [hte] at hk3; cases hk3
              | some te =>
                rw [hte] at hk3
                have := (hP e1 te hte).und
                rw [show te.k = .int .u8 from hk3] at this
                exact this
            obtain ⟨v, w', r1, r2⟩ := strBytes_op h (hn nb (Nat.le_refl _) (by simp)) hu1 hu2 hu3 s
            refine runs_v ⟨v, w', ?_, r2⟩
            rw [h1]
            exact r1
          · cases hev
        · cases hev
      · cases hev
    · rename_i ts td hts htd _ _
      split at hev
      · rename_i e1 hk1 hk2
        split at hev
        · rename_i xs fz hk3 hdat
          have hx := (dat1_sound h (FrozenOf.refl C) (hE x) hdat).2
          have hu1 : P.underlying src = some (.slice e1) := by
            have := (hP src ts hts).und
            rw [hk1] at this
            exact this
          have hu2 : P.underlying dst = some .string := by
            have := (hP dst td htd).und
            rw [hk2] at this
            exact this
          have hu3 : P.underlying e1 = some (.int .u8) := by
            unfold kindOf at hk3
            cases hte : TT e1 with
            | none => rw [hte] at hk3; cases hk3
            | some te =>
              rw [hte] at hk3
              have := (hP e1 te hte).und
              rw [show te.k = .int .u8 from hk3] at this
              exact this
          exact runs_v ⟨_, w, conv_bytes hx hu1 hu3 hu2, Out.of_some h hev (rel_str.2 rfl)⟩
        · cases hev
      · have hev : ∃ r, unsf TT C ts.k td.k (ev T x) some = some r ∧ (some (⟨r, [], []⟩ : Eff)) = some e := by
          rw [unsf_nat C ts.k td.k (ev T x) (fun r => some (⟨r, [], []⟩ : Eff))] at hev
          cases hb : unsf TT C ts.k td.k (ev T x) some with
          | none => rw [hb] at hev; cases hev
          | some r => rw [hb] at hev; exact ⟨r, rfl, hev⟩
        obtain ⟨r, h1, h2⟩ := hev
        obtain ⟨r1, r2⟩ := unsf_op hP h hts htd (hE x) h1
        exact runs_v ⟨_, w, r1, Out.of_some h h2 r2⟩
    · cases hev
  case h_14 tt l c hop =>
    refine Runs.wp (Post := Out X keep w0 ι C w nb e) ?_ (fun v w' hv => ⟨v, rfl, hv⟩)
    unfold execOp
    rw [hop]
    split at hev
    · rename_i td htd
      split at hev
      · rename_i e1 hk
        split at hev
        · rename_i te hte
          split at hev
          · rename_i ty k x k' y hty hl hc
            have h1 := hE l
            have h2 := hE c
            rw [hl, rel_int] at h1
            rw [hc, rel_int] at h2
            split at hev
            · rename_i hcc
              simp only [Bool.and_eq_true] at hcc
              obtain ⟨⟨⟨c1, c2⟩, c3⟩, c4⟩ := hcc
              obtain rfl := ikEq_eq c1
              obtain rfl := ikEq_eq c2
              split at hev
              · rename_i d1
                split at hev
                · rename_i d2
                  split at hev
                  · rename_i d3
                    injection hev with hev
                    subst hev
                    simp only [h1, h2]
                    exact runs_v (make_op hP h (hn nb (Nat.le_refl _) (by simp)) htd hk hte hty (Nat.le_of_ble_eq_true c3) (Nat.le_of_ble_eq_true c4) d1 d2 d3)
                  · cases hev
                · cases hev
              · cases hev
            · cases hev
          · cases hev
        · cases hev
      · cases hev
    · cases hev
  case h_15 tt x lo hi hop =>
    refine Runs.wp (Post := Out X keep w0 ι C w nb e) ?_ (fun v w' hv => ⟨v, rfl, hv⟩)
    unfold execOp
    rw [hop]
    have hopt : ∀ (y : Option Operand) (z : AV), y.map (ev T) = some z → ∃ v, y.map a.eval = some v ∧ RelV w (okb X w ι C) ι z v := by
      intro y z hz
      cases y with
      | none => cases hz
      | some y => injection hz with hz; subst hz; exact ⟨_, rfl, hE y⟩
    have hopt' : ∀ (y : Option Operand), y.map (ev T) = none → y.map a.eval = none := by
      intro y hz
      cases y with
      | none => rfl
      | some y => cases hz
    split at hev
    · rename_i b hb
      have hx := hE x
      rw [hb] at hx
      rw [sliceArr_nat tt C b (lo.map (ev T)) (hi.map (ev T)) (fun r => some (⟨r, [], []⟩ : Eff))] at hev
      cases hc : sliceArr TT tt C b (lo.map (ev T)) (hi.map (ev T)) some with
      | none => rw [hc] at hev; cases hev
      | some r =>
        rw [hc] at hev
        obtain ⟨v, r1, r2⟩ := sliceArr_op hP h hx (hopt lo) (hopt' lo) (hopt hi) (hopt' hi) hc
        exact runs_v ⟨v, w, r1, Out.of_some h hev r2⟩
    have hev : ∃ r, sliceOp TT tt C (ev T x) (lo.map (ev T)) (hi.map (ev T)) some = some r ∧ (some (⟨r, [], []⟩ : Eff)) = some e := by
      rw [sliceOp_nat tt C (ev T x) (lo.map (ev T)) (hi.map (ev T)) (fun r => some (⟨r, [], []⟩ : Eff))] at hev
      cases hb : sliceOp TT tt C (ev T x) (lo.map (ev T)) (hi.map (ev T)) some with
      | none => rw [hb] at hev; cases hev
      | some r => rw [hb] at hev; exact ⟨r, rfl, hev⟩
    obtain ⟨r, h1, h2⟩ := hev
    obtain ⟨v, r1, r2⟩ := slice_op hP h (hE x) (hopt lo) (hopt' lo) (hopt hi) (hopt' hi) h1
    exact runs_v ⟨v, w, r1, Out.of_some h h2 r2⟩
  case h_16 tt x f hop =>
    refine Runs.wp (Post := Out X keep w0 ι C w nb e) ?_ (fun v w' hv => ⟨v, rfl, hv⟩)
    unfold execOp
    rw [hop]
    split at hev
    · rename_i off ft hf
      split at hev
      · rename_i hs
        split at hev
        · rename_i r hr
          obtain ⟨v, r1, r2⟩ := fieldAddr_op hP hf hs (hG x) hr
          exact runs_v ⟨v, w, r1, Out.of_some h hev r2⟩
        · cases hev
      · cases hev
    · cases hev
  case h_17 tt x f hop =>
    refine Runs.wp (Post := Out X keep w0 ι C w nb e) ?_ (fun v w' hv => ⟨v, rfl, hv⟩)
    unfold execOp
    rw [hop]
    split at hev
    · rename_i off ft hf
      split at hev
      · rename_i cs hx
        split at hev
        · rename_i r hl
          have h1 := hE x
          rw [hx] at h1
          obtain ⟨v, r1, r2⟩ := field_op hP hf h1 hl
          exact runs_v ⟨v, w, r1, Out.of_some h hev r2⟩
        · cases hev
      · cases hev
    · cases hev
  case h_18 tt x ix hop =>
    refine Runs.wp (Post := Out X keep w0 ι C w nb e) ?_ (fun v w' hv => ⟨v, rfl, hv⟩)
    unfold execOp
    rw [hop]
    split at hev
    · rename_i td k n htd hix
      have h1 := hE ix
      rw [hix, rel_int] at h1
      simp only [h1]
      have hx := hE x
      split at hev
      · rename_i e1 hk
        have : ∃ r, idxAV TT C e1 n (ev T x) some = some r ∧ (some (⟨r, [], []⟩ : Eff)) = some e := by
          rw [idxAV_nat C e1 n (ev T x) (fun r => some (⟨r, [], []⟩ : Eff))] at hev
          cases hc : idxAV TT C e1 n (ev T x) some with
          | none => rw [hc] at hev; cases hev
          | some r => rw [hc] at hev; exact ⟨r, rfl, hev⟩
        obtain ⟨r, h2, h3⟩ := this
        obtain ⟨v, r1, r2⟩ := indexAddr_sl hP h htd hk hx h2
        exact runs_v ⟨v, w, r1, Out.of_some h h3 r2⟩
      · rename_i m e1 hk
        have hx := hG x
        split at hev
        · rename_i b o' hb
          rw [hb] at hx
          split at hev
          · rename_i hs
            have : ∃ r, chain (R := AV) 0 b o' (sizeT TT e1) n some m = some r ∧ (some (⟨r, [], []⟩ : Eff)) = some e := by
              rw [chain_nat 0 b o' (sizeT TT e1) n (fun r => some (⟨r, [], []⟩ : Eff)) m] at hev
              cases hc : chain (R := AV) 0 b o' (sizeT TT e1) n some m with
              | none => rw [hc] at hev; cases hev
              | some r => rw [hc] at hev; exact ⟨r, rfl, hev⟩
            obtain ⟨r, h2, h3⟩ := this
            obtain ⟨v, r1, r2⟩ := indexAddr_ar hP htd hk hs hx h2
            exact runs_v ⟨v, w, r1, Out.of_some h h3 r2⟩
          · cases hev
        · rename_i cs hb
          rw [hb] at hx
          split at hev
          · rename_i hs
            have : ∃ r, chainV (R := AV) 0 (sizeT TT e1) cs n some m = some r ∧ (some (⟨r, [], []⟩ : Eff)) = some e := by
              rw [chainV_nat 0 (sizeT TT e1) cs n (fun r => some (⟨r, [], []⟩ : Eff)) m] at hev
              cases hc : chainV (R := AV) 0 (sizeT TT e1) cs n some m with
              | none => rw [hc] at hev; cases hev
              | some r => rw [hc] at hev; exact ⟨r, rfl, hev⟩
            obtain ⟨r, h2, h3⟩ := this
            obtain ⟨v, r1, r2⟩ := indexAddr_arV hP htd hk hs hx h2
            exact runs_v ⟨v, w, r1, Out.of_some h h3 r2⟩
          · cases hev
        · rename_i b hb
          rw [hb] at hx
          rw [arrAt_nat C m e1 b n (fun r => some (⟨r, [], []⟩ : Eff))] at hev
          cases hc : arrAt TT C m e1 b n some with
          | none => rw [hc] at hev; cases hev
          | some r =>
            rw [hc] at hev
            obtain ⟨v, r1, r2⟩ := arrAt_op hP h htd hk hx hc
            exact runs_v ⟨v, w, r1, Out.of_some h hev r2⟩
        · cases hev
      · cases hev
    · cases hev
  case h_19 tt x ix hop =>
    refine Runs.wp (Post := Out X keep w0 ι C w nb e) ?_ (fun v w' hv => ⟨v, rfl, hv⟩)
    unfold execOp
    rw [hop]
    split at hev
    · rename_i td k n s htd hix hx
      split at hev
      · rename_i hk
        split at hev
        · rename_i d1
          split at hev
          · rename_i d2
            have h1 := hE ix
            rw [hix, rel_int] at h1
            have h2 := hE x
            rw [hx, rel_str] at h2
            have hu := (hP tt td htd).und
            rw [hk] at hu
            simp only [h1, h2]
            exact runs_v ⟨_, w, index_op hu d1 d2, Out.of_some h hev (rel_int.2 rfl)⟩
          · cases hev
        · cases hev
      · cases hev
    · rename_i td k n cs htd hix hx
      split at hev
      · rename_i m e1 hk
        split at hev
        · rename_i hs
          have h1 := hE ix
          rw [hix, rel_int] at h1
          have h2 := hE x
          rw [hx] at h2
          simp only [h1]
          have : ∃ r, chainA (R := AV) TT e1 (sizeT TT e1) cs n some 0 m = some r ∧ (some (⟨r, [], []⟩ : Eff)) = some e := by
            rw [chainA_nat TT e1 (sizeT TT e1) cs n (fun r => some (⟨r, [], []⟩ : Eff)) 0 m] at hev
            cases hc : chainA (R := AV) TT e1 (sizeT TT e1) cs n some 0 m with
            | none => rw [hc] at hev; cases hev
            | some r => rw [hc] at hev; exact ⟨r, rfl, hev⟩
          obtain ⟨r, h3, h4⟩ := this
          obtain ⟨v, r1, r2⟩ := index_ar hP htd hk hs h2 h3
          exact runs_v ⟨v, w, r1, Out.of_some h h4 r2⟩
        · cases hev
      · cases hev
    · cases hev
  case h_20 x i hop =>
    refine Runs.wp (Post := Out X keep w0 ι C w nb e) ?_ (fun v w' hv => ⟨v, rfl, hv⟩)
    unfold execOp
    rw [hop]
    split at hev
    · rename_i cs hx
      split at hev
      · rename_i y hy
        have h1 := hE x
        rw [hx] at h1
        simp only [RelV] at h1
        obtain ⟨us, h2, h3⟩ := h1
        obtain ⟨v, h4, h5⟩ := RelL_get i y h3 hy
        refine runs_v ⟨v, w, ?_, Out.of_some h hev h5⟩
        rw [h2]
        simp [Instr.extract, h4]
      · cases hev
    · cases hev
  case h_21 f first captured hop =>
    refine Runs.wp (Post := Out X keep w0 ι C w nb e) ?_ (fun v w' hv => ⟨v, rfl, hv⟩)
    unfold execOp
    rw [hop]
    split at hev
    · rename_i hf
      have hf := Nat.eq_of_beq_eq_true hf
      have hf : first = #[] := Array.eq_empty_of_size_eq_zero hf
      subst hf
      refine runs_v ⟨.func (.func f) #[] (captured.map a.eval), w, by simp [Instr.makeFunc], Out.of_some h hev ?_⟩
      simp only [RelV]
      exact ⟨captured.toList.map a.eval, by rw [← Array.toList_map], RelL_map hT captured.toList⟩
    · split at hev
      · rename_i hf
        have hf := Nat.eq_of_beq_eq_true hf
        have hf : captured = #[] := Array.eq_empty_of_size_eq_zero hf
        subst hf
        refine runs_v ⟨.func (.func f) (first.map a.eval) #[], w, by simp [Instr.makeFunc], Out.of_some h hev ?_⟩
        simp only [RelV]
        exact ⟨first.toList.map a.eval, by rw [← Array.toList_map], RelL_map hT first.toList⟩
      · cases hev
  case h_22 tt x hop =>
    refine Runs.wp (Post := Out X keep w0 ι C w nb e) ?_ (fun v w' hv => ⟨v, rfl, hv⟩)
    unfold execOp
    rw [hop]
    split at hev
    · rename_i s hk hx
      injection hev with hev
      subst hev
      have h1 := hE x
      rw [hx, rel_str] at h1
      simp only [h1]
      exact runs_v (range_op (kindOf_str hP hk) h (hn nb (Nat.le_refl _) (by simp)))
    · cases hev
  case h_23 x hop =>
    refine Runs.wp (Post := Out X keep w0 ι C w nb e) ?_ (fun v w' hv => ⟨v, rfl, hv⟩)
    unfold execOp
    rw [hop]
    split at hev
    · rename_i b hb
      have h1 := hE x
      rw [hb] at h1
      split at hev
      · rename_i s pos hC
        obtain ⟨q1, q2⟩ := next_op (nb := nb) (ty := o.type) h h1 hC
        split at hev
        · rename_i hp
          injection hev with hev
          subst hev
          exact runs_v (q1 hp)
        · rename_i hp
          obtain ⟨v, r1, r2⟩ := q2 hp
          exact runs_v ⟨v, w, r1, Out.of_some h hev r2⟩
      · cases hev
    · cases hev
  case h_24 c hop =>
    split at hev
    · rename_i hcal
      split at hev
      · rename_i x tt hargs hty
        have hargs : c.args = #[x] := by rw [← Array.toArray_toList (xs := c.args), hargs]
        have hty : c.argTypes = #[tt] := by rw [← Array.toArray_toList (xs := c.argTypes), hty]
        refine Runs.wp (Post := Out X keep w0 ι C w nb e) ?_ (fun v w' hv => ⟨v, rfl, hv⟩)
        unfold execOp
        rw [hop]
        have hx := hE x
        split at hev
        · rename_i s hk hs
          rw [hs, rel_str] at hx
          refine ⟨.int .i64 s.length, w, .inl ?_, Out.of_some h hev (rel_int.2 rfl)⟩
          simp [resolve, hcal, invoke, builtin, hargs, hty, Builtin.len_, run_und (kindOf_str hP hk), hx, goInt, size_mk]
        · rename_i hk hs
          rw [hs] at hx
          simp only [RelV] at hx
          refine ⟨.int .i64 0, w, .inl ?_, Out.of_some h hev (rel_int.2 rfl)⟩
          simp [resolve, hcal, invoke, builtin, hargs, hty, Builtin.len_, run_und (kindOf_mp hP hk), hx, goInt]
        · rename_i b hk hs
          rw [hs] at hx
          split at hev
          · rename_i kt va vt l hb
            obtain ⟨g, es, ck, l', g1, g2, g3, g4, g5, g6, g7⟩ := mapRel (P := P) h hx hb
            refine ⟨.int .i64 l.length, w, .inl ?_, Out.of_some h hev (rel_int.2 rfl)⟩
            have hl : es.size = l.length := by rw [← g4.length_eq, ← RzM_length g6, Array.length_toList]
            simp [resolve, hcal, invoke, builtin, hargs, hty, Builtin.len_, run_und (kindOf_mp hP hk), g2, g7, goInt, hl]
          · cases hev
        · rename_i e1 hk
          split at hev
          · rename_i n hl
            obtain ⟨A, m, cc, q1, q2⟩ := lenOf_sound h hx hl
            subst q2
            refine ⟨.int .i64 m, w, .inl ?_, Out.of_some h hev (rel_int.2 rfl)⟩
            simp [resolve, hcal, invoke, builtin, hargs, hty, Builtin.len_, run_und (kindOf_sl hP hk), q1, goInt]
          · cases hev
        · cases hev
      · cases hev
    · rename_i hcal
      split at hev
      · rename_i x y tt tt' hargs hty
        have hargs : c.args = #[x, y] := by rw [← Array.toArray_toList (xs := c.args), hargs]
        have hty : c.argTypes = #[tt, tt'] := by rw [← Array.toArray_toList (xs := c.argTypes), hty]
        split at hev
        · rename_i td htd
          split at hev
          · rename_i e1 hk
            split at hev
            · rename_i te hte
              split at hev
              · rename_i ty htye
                split at hev
                · rename_i hc
                  simp only [Bool.and_eq_true] at hc
                  obtain ⟨⟨c1, c2⟩, c3⟩ := hc
                  obtain rfl := Nat.eq_of_beq_eq_true c1
                  have c2 : 0 < ty.size := Nat.le_of_ble_eq_true c2
                  have c3 := Nat.le_of_ble_eq_true c3
                  split at hev
                  · rename_i ys f hel
                    refine Runs.wp (Post := Out X keep w0 ι C w nb e) ?_ (fun v w' hv => ⟨v, rfl, hv⟩)
                    unfold execOp
                    rw [hop]
                    have hx := hE x
                    have hap : ∀ (s : Value → World → Prop), (∃ v w', (Builtin.append_ #[tt, tt] o.type #[a.eval x, a.eval y]).run P w = .ok v w' ∧ s v w') → Runs P (do let d ← resolve a.eval c o.type; invoke d.target d.args) w s := by
                      rintro s ⟨v, w', r1, r2⟩
                      refine ⟨v, w', .inl ?_, r2⟩
                      simp [resolve, hcal, invoke, builtin, hargs, hty, r1]
                    split at hev
                    · rename_i hxn
                      split at hev
                      · rename_i hl
                        injection hev with hev
                        subst hev
                        rw [hxn] at hx
                        simp only [RelV] at hx
                        refine hap _ ?_
                        rw [hx]
                        exact append_nil_op hP h (hn nb (Nat.le_refl _) (by simp)) htd hk hte htye o.type c2 c3 (hE y) hel hl
                      · cases hev
                    · rename_i b hxb
                      rw [hxb] at hx
                      split at hev
                      · rename_i t e' xs hC
                        split at hev
                        · rename_i hq _
                          obtain ⟨hq⟩ := hq
                          subst hq
                          split at hev
                          · rename_i hcc
                            rw [Bool.and_eq_true] at hcc
                            obtain ⟨d1, d2⟩ := hcc
                            obtain rfl := Nat.eq_of_beq_eq_true d1
                            split at hev
                            · rename_i hl
                              injection hev with hev
                              subst hev
                              refine hap _ ?_
                              exact append_row_op hP h (hn nb (Nat.le_refl _) (by simp)) htd hk hte htye o.type c2 c3 hx hC (hE y) hel (by simpa using d2) hl
                            · cases hev
                          · cases hev
                        · cases hev
                      · cases hev
                    · cases hev
                  · cases hev
                · refine Runs.wp (Post := Out X keep w0 ι C w nb e) ?_ (fun v w' hv => ⟨v, rfl, hv⟩)
                  unfold execOp
                  rw [hop]
                  obtain ⟨v, w', r1, r2⟩ := appStr_op hP h htd hk hte o.type (hE x) (hE y) hev hn
                  refine ⟨v, w', .inl ?_, r2⟩
                  simp [resolve, hcal, invoke, builtin, hargs, hty, r1]
              · cases hev
            · cases hev
          · cases hev
        · cases hev
      · cases hev
    · rename_i hcal
      split at hev
      · rename_i x y tt tt' hargs hty
        have hargs : c.args = #[x, y] := by rw [← Array.toArray_toList (xs := c.args), hargs]
        have hty : c.argTypes = #[tt, tt'] := by rw [← Array.toArray_toList (xs := c.argTypes), hty]
        refine Runs.wp (Post := Out X keep w0 ι C w nb e) ?_ (fun v w' hv => ⟨v, rfl, hv⟩)
        unfold execOp
        rw [hop]
        have hev : copyOp TT tt C (ev T x) (ev T y) some = some e := hev
        obtain ⟨v, w', r1, r2⟩ := copyOp_op (nb := nb) hP h (hE x) (hE y) hev tt' o.type
        refine ⟨v, w', .inl ?_, r2⟩
        simp [resolve, hcal, invoke, builtin, hargs, hty, r1]
      · cases hev
    · rename_i hcal
      split at hev
      · rename_i x y hargs
        have hargs : c.args = #[x, y] := by rw [← Array.toArray_toList (xs := c.args), hargs]
        refine Runs.wp (Post := Out X keep w0 ι C w nb e) ?_ (fun v w' hv => ⟨v, rfl, hv⟩)
        unfold execOp
        rw [hop]
        have hx := hE x
        have hy := hE y
        split at hev
        · rename_i k i k' j h1 h2
          rw [h1, rel_int] at hx
          rw [h2, rel_int] at hy
          refine ⟨.int k (if j > i then j else i), w, .inl ?_, Out.of_some h hev (rel_int.2 (by unfold imax; rfl))⟩
          simp [resolve, hcal, invoke, builtin, hargs, Builtin.max_, Builtin.max2, hx, hy]
        · cases hev
      · cases hev
    · rename_i fo hcal
      split at hev
      · rename_i g cs hfn
        split at hev
        · rename_i co hco
          rcases hΔ g co hco with hok | hok
          · obtain ⟨fn, f1, f2, f3⟩ := hok.fn
            have hf := hE fo
            rw [hfn] at hf
            simp only [RelV] at hf
            obtain ⟨us, hu, hr⟩ := hf
            have hargs : RelL w (okb X w ι C) ι (c.args.toList.map (ev T) ++ cs) (c.args.toList.map a.eval ++ us) := RelL_append (RelL_map hT _) hr
            rw [hok.nat] at hev
            have hev : co (c.args.toList.map (ev T) ++ cs) C nb Eff some = some e := by
              cases hc : co (c.args.toList.map (ev T) ++ cs) C nb Eff some with
              | none => rw [hc] at hev; cases hev
              | some e' => rw [hc] at hev; exact hev
            have hrun := hok.run X keep w0 w ι C nb _ _ e h hargs hev hn
            have hexec : (execOp a.eval o).run P w = .ok (.enter g (c.args.toList.map a.eval ++ us).toArray) w := by
              unfold execOp
              rw [hop]
              have hname : ¬ fn.name = "runtime.NumGoroutine" := by simpa using f2
              have hb : ¬ fn.body = none := by
                intro hb
                rw [hb] at f3
                cases f3
              have harr : Array.map a.eval c.args ++ us.toArray = (List.map a.eval c.args.toList ++ us).toArray := by
                apply Array.ext'
                simp
              simp [resolve, hcal, hu, Deferred.ofValue, invoke, callFunc, f1, hname, hb, harr]
            unfold Oper.wp
            rw [hexec, Oper.upon_enter]
            refine hrun.mono ?_
            rintro en w' ⟨v, rfl, hv⟩
            exact ⟨v, rfl, hv⟩
          · have hf := hE fo
            rw [hfn] at hf
            simp only [RelV] at hf
            obtain ⟨us, hu, hr⟩ := hf
            have hargs : RelL w (okb X w ι C) ι (c.args.toList.map (ev T) ++ cs) (c.args.toList.map a.eval ++ us) := RelL_append (RelL_map hT _) hr
            rw [hok.nat] at hev
            have hev : co (c.args.toList.map (ev T) ++ cs) C nb Eff some = some e := by
              cases hc : co (c.args.toList.map (ev T) ++ cs) C nb Eff some with
              | none => rw [hc] at hev; cases hev
              | some e' => rw [hc] at hev; exact hev
            obtain ⟨v, w', r1, r2⟩ := hok.run X keep w0 w ι C nb _ _ e h hargs hev hn
            refine Runs.wp (Post := Out X keep w0 ι C w nb e) ?_ (fun v w' hv => ⟨v, rfl, hv⟩)
            refine ⟨v, w', .inl ?_, r2⟩
            unfold execOp
            rw [hop]
            have harr : Array.map a.eval c.args ++ us.toArray = (List.map a.eval c.args.toList ++ us).toArray := by
              apply Array.ext'
              simp
            simp [resolve, hcal, hu, Deferred.ofValue, invoke, harr, r1]
        · cases hev
      · rename_i g cs hfn
        split at hev
        · rename_i co hco
          rcases hΔ g co hco with hok | hok
          · obtain ⟨fn, f1, f2, f3⟩ := hok.fn
            have hf := hE fo
            rw [hfn] at hf
            simp only [RelV] at hf
            obtain ⟨us, hu, hr⟩ := hf
            have hargs : RelL w (okb X w ι C) ι (cs ++ c.args.toList.map (ev T)) (us ++ c.args.toList.map a.eval) := RelL_append hr (RelL_map hT _)
            rw [hok.nat] at hev
            have hev : co (cs ++ c.args.toList.map (ev T)) C nb Eff some = some e := by
              cases hc : co (cs ++ c.args.toList.map (ev T)) C nb Eff some with
              | none => rw [hc] at hev; cases hev
              | some e' => rw [hc] at hev; exact hev
            have hrun := hok.run X keep w0 w ι C nb _ _ e h hargs hev hn
            have hexec : (execOp a.eval o).run P w = .ok (.enter g (us ++ c.args.toList.map a.eval).toArray) w := by
              unfold execOp
              rw [hop]
              have hname : ¬ fn.name = "runtime.NumGoroutine" := by simpa using f2
              have hb : ¬ fn.body = none := by
                intro hb
                rw [hb] at f3
                cases f3
              have harr : us.toArray ++ Array.map a.eval c.args = (us ++ List.map a.eval c.args.toList).toArray := by
                apply Array.ext'
                simp
              simp [resolve, hcal, hu, Deferred.ofValue, invoke, callFunc, f1, hname, hb, harr]
            unfold Oper.wp
            rw [hexec, Oper.upon_enter]
            refine hrun.mono ?_
            rintro en w' ⟨v, rfl, hv⟩
            exact ⟨v, rfl, hv⟩
          · have hf := hE fo
            rw [hfn] at hf
            simp only [RelV] at hf
            obtain ⟨us, hu, hr⟩ := hf
            have hargs : RelL w (okb X w ι C) ι (cs ++ c.args.toList.map (ev T)) (us ++ c.args.toList.map a.eval) := RelL_append hr (RelL_map hT _)
            rw [hok.nat] at hev
            have hev : co (cs ++ c.args.toList.map (ev T)) C nb Eff some = some e := by
              cases hc : co (cs ++ c.args.toList.map (ev T)) C nb Eff some with
              | none => rw [hc] at hev; cases hev
              | some e' => rw [hc] at hev; exact hev
            obtain ⟨v, w', r1, r2⟩ := hok.run X keep w0 w ι C nb _ _ e h hargs hev hn
            refine Runs.wp (Post := Out X keep w0 ι C w nb e) ?_ (fun v w' hv => ⟨v, rfl, hv⟩)
            refine ⟨v, w', .inl ?_, r2⟩
            unfold execOp
            rw [hop]
            have harr : us.toArray ++ Array.map a.eval c.args = (us ++ List.map a.eval c.args.toList).toArray := by
              apply Array.ext'
              simp
            simp [resolve, hcal, hu, Deferred.ofValue, invoke, harr, r1]
        · cases hev
      · rename_i x hfn
        obtain ⟨g, co, hxg, hco, hev2⟩ := amongF_some hev
        subst hxg
        · rcases hΔ g co hco with hok | hok
          · obtain ⟨fn, f1, f2, f3⟩ := hok.fn
            have hf := hE fo
            rw [hfn] at hf
            simp only [RelV] at hf
            have hu : a.eval fo = .func (.func g) #[] #[] := by
              have hf : [a.eval fo] = [fvV ((g + 1 : Nat) : Int)] := hf
              injection hf
            have hargs : RelL w (okb X w ι C) ι (c.args.toList.map (ev T)) (c.args.toList.map a.eval) := RelL_map hT _
            have hrun := hok.run X keep w0 w ι C nb _ _ e h hargs hev2 hn
            have hexec : (execOp a.eval o).run P w = .ok (.enter g (c.args.toList.map a.eval).toArray) w := by
              unfold execOp
              rw [hop]
              have hname : ¬ fn.name = "runtime.NumGoroutine" := by simpa using f2
              have hb : ¬ fn.body = none := by
                intro hb
                rw [hb] at f3
                cases f3
              have harr : Array.map a.eval c.args = (List.map a.eval c.args.toList).toArray := by
                apply Array.ext'
                simp
              simp [resolve, hcal, hu, Deferred.ofValue, invoke, callFunc, f1, hname, hb, harr]
            unfold Oper.wp
            rw [hexec, Oper.upon_enter]
            refine hrun.mono ?_
            rintro en w' ⟨v, rfl, hv⟩
            exact ⟨v, rfl, hv⟩
          · have hf := hE fo
            rw [hfn] at hf
            simp only [RelV] at hf
            have hu : a.eval fo = .func (.func g) #[] #[] := by
              have hf : [a.eval fo] = [fvV ((g + 1 : Nat) : Int)] := hf
              injection hf
            have hargs : RelL w (okb X w ι C) ι (c.args.toList.map (ev T)) (c.args.toList.map a.eval) := RelL_map hT _
            obtain ⟨v, w', r1, r2⟩ := hok.run X keep w0 w ι C nb _ _ e h hargs hev2 hn
            refine Runs.wp (Post := Out X keep w0 ι C w nb e) ?_ (fun v w' hv => ⟨v, rfl, hv⟩)
            refine ⟨v, w', .inl ?_, r2⟩
            unfold execOp
            rw [hop]
            have harr : Array.map a.eval c.args = (List.map a.eval c.args.toList).toArray := by
              apply Array.ext'
              simp
            simp [resolve, hcal, hu, Deferred.ofValue, invoke, harr, r1]
      · cases hev
    · rename_i hcal
      split at hev
      · rename_i x y tt tt' hargs hty
        have hargs : c.args = #[x, y] := by rw [← Array.toArray_toList (xs := c.args), hargs]
        have hty : c.argTypes = #[tt, tt'] := by rw [← Array.toArray_toList (xs := c.argTypes), hty]
        refine Runs.wp (Post := Out X keep w0 ι C w nb e) ?_ (fun v w' hv => ⟨v, rfl, hv⟩)
        unfold execOp
        rw [hop]
        have hev : mapDel TT tt C (ev T x) (ev T y) some = some e := hev
        obtain ⟨w', r1, r2⟩ := del_op (nb := nb) (ty := o.type) (ts := c.argTypes) hP h (hE x) (hE y) hev (by rw [hty]; rfl)
        refine ⟨.tuple #[], w', .inl ?_, r2⟩
        simp [resolve, hcal, invoke, builtin, hargs, r1]
      · cases hev
    · rename_i hcal
      split at hev
      · rename_i x hargs
        have hargs : c.args = #[x] := by rw [← Array.toArray_toList (xs := c.args), hargs]
        refine Runs.wp (Post := Out X keep w0 ι C w nb e) ?_ (fun v w' hv => ⟨v, rfl, hv⟩)
        unfold execOp
        rw [hop]
        have hev : ∃ r, sdata C (ev T x) some = some r ∧ (some (⟨r, [], []⟩ : Eff)) = some e := by
          rw [sdata_nat C (ev T x) (fun r => some (⟨r, [], []⟩ : Eff))] at hev
          cases hb : sdata C (ev T x) some with
          | none => rw [hb] at hev; cases hev
          | some r => rw [hb] at hev; exact ⟨r, rfl, hev⟩
        obtain ⟨r, h1, h2⟩ := hev
        obtain ⟨v, r1, r2⟩ := sdata_op (P := P) h (hE x) h1 c.argTypes o.type
        refine ⟨v, w, .inl ?_, Out.of_some h h2 r2⟩
        simp [resolve, hcal, invoke, builtin, hargs, r1]
      · cases hev
    · rename_i hcal
      split at hev
      · rename_i x y tt tt' hargs hty
        have hargs : c.args = #[x, y] := by rw [← Array.toArray_toList (xs := c.args), hargs]
        have hty : c.argTypes = #[tt, tt'] := by rw [← Array.toArray_toList (xs := c.argTypes), hty]
        refine Runs.wp (Post := Out X keep w0 ι C w nb e) ?_ (fun v w' hv => ⟨v, rfl, hv⟩)
        unfold execOp
        rw [hop]
        have hev : ustr TT tt C (ev T x) (ev T y) some = some e := hev
        obtain ⟨v, w', r1, r2⟩ := ustr_op (nb := nb) hP h (hE x) (hE y) hev tt' o.type
        refine ⟨v, w', .inl ?_, r2⟩
        simp [resolve, hcal, invoke, builtin, hargs, hty, r1]
      · cases hev
    · cases hev
  case h_25 tt r hop =>
    refine Runs.wp (Post := Out X keep w0 ι C w nb e) ?_ (fun v w' hv => ⟨v, rfl, hv⟩)
    unfold execOp
    rw [hop]
    split at hev
    · rename_i kt va vt hm
      obtain ⟨hk, k, et, te, hu, _⟩ := mapTy_sound hP hm
      split at hev
      · rename_i hr
        injection hev with hev
        subst hev
        refine runs_v (makeMap_op h (hn nb (Nat.le_refl _) (by simp)) hk hu fun v hv => ?_)
        cases r with
        | none => cases hv
        | some x =>
          unfold mapRoom at hr
          simp only at hr
          injection hv with hv
          subst hv
          split at hr
          · rename_i k n hx
            have := hE x
            rw [hx] at this
            exact ⟨_, _, rel_int.1 this⟩
          · cases hr
      · cases hev
    · cases hev
  case h_26 tt x ix comma hop =>
    refine Runs.wp (Post := Out X keep w0 ι C w nb e) ?_ (fun v w' hv => ⟨v, rfl, hv⟩)
    unfold execOp
    rw [hop]
    have hev : ∃ r, mapLook TT tt C (ev T x) (ev T ix) comma some = some r ∧ (some (⟨r, [], []⟩ : Eff)) = some e := by
      rw [mapLook_nat tt C (ev T x) (ev T ix) comma (fun r => some (⟨r, [], []⟩ : Eff))] at hev
      cases hb : mapLook TT tt C (ev T x) (ev T ix) comma some with
      | none => rw [hb] at hev; cases hev
      | some r => rw [hb] at hev; exact ⟨r, rfl, hev⟩
    obtain ⟨r, h1, h2⟩ := hev
    obtain ⟨v, r1, r2⟩ := look_op hP h (hE x) (hE ix) h1
    exact runs_v ⟨v, w, r1, Out.of_some h h2 r2⟩
  case h_27 tt m k x hop =>
    refine Runs.wp (Post := Out X keep w0 ι C w nb e) ?_ (fun v w' hv => ⟨v, rfl, hv⟩)
    unfold execOp
    rw [hop]
    exact runs_u (set_op hP h (hE m) (hE k) (hE x) hev)
  case h_28 tt m k x hop =>
    refine Runs.wp (Post := Out X keep w0 ι C w nb e) ?_ (fun v w' hv => ⟨v, rfl, hv⟩)
    unfold execOp
    rw [hop]
    exact runs_u (set_op hP h (hE m) (hE k) (hE x) hev)
  all_goals cases hev
end
end Go.Proofs.Rf
/- Rf, part l: regions in the text's order. -/
namespace Go.Proofs.Rf
open Go Go.RowKit

/-- No fence; in a round of a loop over a function (ρ), or in none. -/
def WF (ρ : Option Nat) : Fence := { fn := fun _ => True, depth := none, alive := false, round := ρ }

theorem wpIn_of_wp {P : Program} {ρ : Option Nat} {d : Nat} {o : Oper} {a : Act} {w : World} {K : Act → World → Prop} {Q : Exit → Act → World → Prop} (hd : ∀ c, o.op ≠ .defer c) (h : o.wp P a w K Q) : o.wpIn (WF ρ) d P a w K Q := by
  refine ⟨fun _ _ => trivial, ?_⟩
  rw [Oper.semAt_eq _ _ _ hd]
  unfold Oper.wp at h
  have hn : (WF ρ).depth.isSome = true → 1 ≤ d := fun h => by cases h
  generalize (execOp a.eval o).run P w = r at *
  cases r with
  | ok x w' =>
    cases x <;> simp only [Oper.upon, Oper.uponIn] at h ⊢
    case value v => exact h
    case skip => exact h
    case defer q => exact h
    case enter f args => exact ⟨hn, callsIn_wide.2 h⟩
    case row row args =>
      refine ⟨hn, fun c cs _ => ?_⟩
      obtain ⟨v, w'', h1, h2⟩ := h c cs
      exact ⟨v, w'', h1, stepsIn_wide.2 h2⟩
  | halt x w' => cases x <;> simp only [Oper.upon, Oper.uponIn] at h ⊢ <;> exact h

/-- The slots of a frame: which ones are written, what is kept of the rest; how it is left. -/
structure Slots where
  marks : Bool
  base : Nat
  ok : Nat → Bool
  G : Array Value → Prop
  lt : ∀ tm d, G tm → ok d = true → d < tm.size
  set : ∀ tm d v, G tm → ok d = true → G (tm.setIfInBounds d v)

/-- Deferred are marks alone, whose blocks are kept. -/
def MarksOK (base : Nat) (keep : Nat → Prop) (w0 : World) : List Deferred → Prop
  | [] => True
  | d :: ds => (∃ D, d.target = .collected D ∧ base ≤ D ∧ keep D ∧ w0.heap[D]? = some (.deferred (some [])) ∧ ∀ e ∈ ds, e.target ≠ .collected D) ∧ MarksOK base keep w0 ds

section
variable {X keep : Nat → Prop} {w0 w : World} {ι : Nat → Option Value} {C : Nat → Blk} {P : Program} {TT : Tab} {Δ : Nat → Option CallO} {n : Slots}

theorem evOp_nat (hΔ : CallsOK P Δ) {R : Type} (o : Oper) (T : Nat → AV) (C : Nat → Blk) (nb : Nat) (K : Eff → Option R) : evOp TT Δ o T C nb K = (evOp TT Δ o T C nb some).bind K := by
  have hb : ∀ {x : Option AV} {L : Option R} {M : Option Eff}, L = x.bind (fun a => K ⟨a, [], []⟩) → M = x.bind (fun a => some ⟨a, [], []⟩) → L = M.bind K := by
    rintro x L M rfl rfl
    cases x <;> rfl
  unfold evOp
  split
  case h_5 e0 x hop =>
    split
    · split
      · split <;> rfl
      · rfl
    · split <;> rfl
  case h_10 x hop =>
    split <;> first | rfl | (split <;> rfl)
  case h_11 op tt x y yt hop =>
    split
    · rfl
    split
    · rfl
    · exact hb (bin_nat ..) (bin_nat ..)
  case h_12 op xt x hop =>
    exact hb (uny_nat ..) (uny_nat ..)
  case h_13 src dst x hop =>
    split
    · split <;> rfl
    · split
      · split
        · split <;> rfl
        · rfl
      · rfl
    · split
      · split <;> rfl
      · exact hb (unsf_nat ..) (unsf_nat ..)
    · rfl
  case h_15 tt x lo hi hop =>
    split
    · exact hb (sliceArr_nat ..) (sliceArr_nat ..)
    · exact hb (sliceOp_nat ..) (sliceOp_nat ..)
  case h_18 tt x ix hop =>
    repeat' split
    all_goals first
      | rfl
      | exact hb (idxAV_nat ..) (idxAV_nat ..)
      | exact hb (chain_nat ..) (chain_nat ..)
      | exact hb (chainV_nat ..) (chainV_nat ..)
      | exact hb (arrAt_nat ..) (arrAt_nat ..)
  case h_19 tt x ix hop =>
    repeat' split
    all_goals first
      | rfl
      | exact hb (chainA_nat ..) (chainA_nat ..)
  case h_24 c hop =>
    split
    · repeat' split
      all_goals rfl
    · repeat' split
      all_goals first | rfl | exact appStr_nat ..
    · split
      · exact copyOp_nat ..
      · rfl
    · repeat' split
      all_goals rfl
    · split
      · split
        · rename_i co hco
          exact (hΔ _ co hco).nat ..
        · rfl
      · split
        · rename_i co hco
          exact (hΔ _ co hco).nat ..
        · rfl
      · exact amongF_nat hΔ ..
      · rfl
    · split
      · exact mapDel_nat ..
      · rfl
    · split
      · exact hb (sdata_nat ..) (sdata_nat ..)
      · rfl
    · split
      · exact ustr_nat ..
      · rfl
    · rfl
  case h_26 tt x ix comma hop =>
    exact hb (mapLook_nat ..) (mapLook_nat ..)
  case h_27 tt m k x hop =>
    exact mapSet_nat ..
  case h_28 tt m k x hop =>
    exact mapSet_nat ..
  all_goals ((repeat' split) <;> rfl)

/-! ### Blocks as a list, and as a function -/
theorem setB_length : ∀ (bl : List Blk) (k : Nat) (b : Blk), (setB bl k b).length = bl.length
  | [], _, _ => rfl
  | _ :: _, 0, _ => rfl
  | _ :: r, k + 1, b => by simp [setB, setB_length r k b]

theorem getB_setB : ∀ (bl : List Blk) (k : Nat) (b : Blk), k < bl.length → getB (setB bl k b) = setC (getB bl) k b
  | [], k, _, h => by simp at h
  | c :: r, 0, b, _ => by
    funext j
    cases j with
    | zero => simp [setB, getB, setC]
    | succ j => simp [setB, getB, setC]
  | c :: r, k + 1, b, h => by
    funext j
    have ih := getB_setB r k b (by simpa using h)
    cases j with
    | zero => simp [setB, getB, setC]
    | succ j =>
      have := congrFun ih j
      simp only [setB, getB, setC, Nat.add_right_cancel_iff] at this ⊢
      exact this

theorem updB_length : ∀ (u : List (Nat × Blk)) (bl : List Blk), (updB bl u).length = bl.length
  | [], _ => rfl
  | (k, b) :: r, bl => by
    show (updB (setB bl k b) r).length = _
    rw [updB_length r, setB_length]

theorem getB_updB : ∀ (u : List (Nat × Blk)) (bl : List Blk), updLt bl.length u = true → getB (updB bl u) = updC (getB bl) u
  | [], _, _ => rfl
  | (k, b) :: r, bl, h => by
    simp only [updLt, Bool.and_eq_true] at h
    have hk : k < bl.length := Nat.le_of_ble_eq_true h.1
    show getB (updB (setB bl k b) r) = updC (setC (getB bl) k b) r
    rw [getB_updB r _ (by rw [setB_length]; exact h.2), getB_setB _ _ _ hk]

theorem getB_out : ∀ (bl : List Blk) (k : Nat), bl.length ≤ k → getB bl k = .dead
  | [], _, _ => rfl
  | _ :: r, 0, h => by simp at h
  | _ :: r, k + 1, h => getB_out r k (by simpa using h)

theorem getB_append1 : ∀ (bl : List Blk) (b : Blk), getB (bl ++ [b]) = setC (getB bl) bl.length b
  | [], b => by
    funext j
    cases j with
    | zero => rfl
    | succ j => simp [getB, setC]
  | c :: r, b => by
    funext j
    have ih := getB_append1 r b
    cases j with
    | zero => simp [getB, setC]
    | succ j =>
      have := congrFun ih j
      simp only [List.cons_append, getB, setC, List.length_cons, Nat.add_right_cancel_iff] at this ⊢
      exact this

theorem getB_append : ∀ (new bl : List Blk), getB (bl ++ new) = addC (getB bl) bl.length new
  | [], bl => by rw [List.append_nil]; rfl
  | b :: r, bl => by
    show getB (bl ++ b :: r) = addC (setC (getB bl) bl.length b) (bl.length + 1) r
    rw [← getB_append1, show bl ++ b :: r = (bl ++ [b]) ++ r by simp, getB_append r, List.length_append]
    rfl

theorem getB_eff {bl : List Blk} {e : Eff} (h : updLt bl.length e.upd = true) : getB (updB bl e.upd ++ e.new) = effC (getB bl) bl.length e := by
  rw [getB_append, updB_length, getB_updB _ _ h]; rfl

def effT (T : Nat → AV) (dst : Option Nat) (x : AV) : Nat → AV := fun t => if dst = some t then x else T t

structure FRel (X keep : Nat → Prop) (w0 : World) (n : Slots) (ι : Nat → Option Value) (T : Nat → AV) (C : Nat → Blk) (a : Act) (w : World) : Prop where
  h : HRel X keep w0 ι C w
  tm : ∀ t, RelV w (okb X w ι C) ι (T t) (a.tmps.getD t undef)
  size : n.G a.tmps
  defers : n.base ≤ w0.heap.size ∧ (n.marks = false → a.defers = []) ∧ MarksOK n.base keep w0 a.defers

theorem put_getD {a : Act} {dst : Option Nat} {v : Value} (h : ∀ d, dst = some d → d < a.tmps.size) (t : Nat) : (a.put dst v).tmps.getD t undef = if dst = some t then v else a.tmps.getD t undef := by
  cases dst with
  | none => simp [Act.put]
  | some d =>
    have hd := h d rfl
    by_cases ht : d = t
    · subst ht
      simp [Act.put, hd]
    · have : ¬ (some d = some t) := fun e => ht (by injection e)
      rw [if_neg this]
      simp [Act.put, Array.getD_eq_getD_getElem?, Array.getElem?_setIfInBounds_ne ht]

theorem put_defers (a : Act) (dst : Option Nat) (v : Value) : (a.put dst v).defers = a.defers := by cases dst <;> rfl

theorem FRel.step {T : Nat → AV} {a : Act} {ι' : Nat → Option Value} {C' : Nat → Blk} {w' : World} (h : FRel X keep w0 n ι T C a w) {dst : Option Nat} (hd : ∀ d, dst = some d → n.ok d = true) {x : AV} {v : Value}
    (h1 : HRel X keep w0 ι' C' w') (h2 : Ext X ι C w ι' C' w') (h3 : RelV w' (okb X w' ι' C') ι' x v) : FRel X keep w0 n ι' (effT T dst x) C' (a.put dst v) w' := by
  have hG : n.G (a.put dst v).tmps := by
    cases dst with
    | none => exact h.size
    | some d => exact n.set _ _ _ h.size (hd d rfl)
  refine ⟨h1, fun t => ?_, hG, by rw [put_defers]; exact h.defers⟩
  rw [put_getD (fun d hdd => n.lt _ _ h.size (hd d hdd))]
  unfold effT
  split
  · exact h3
  · exact h2.val (h.tm t)

/-- A draw of the order changes nothing that is told. -/
theorem FRel.drawn {T : Nat → AV} {a : Act} (h : FRel X keep w0 n ι T C a w) (k : Nat) : FRel X keep w0 n ι T C a { w with drawn := k } := by
  have hc : ∀ p, ({ w with drawn := k } : World).cell? p = w.cell? p := fun _ => rfl
  have hext : Ext X ι C w ι C { w with drawn := k } := ⟨fun _ _ e => e, fun _ e => e, fun _ _ => rfl⟩
  refine ⟨⟨fun j => RelB_keep hext j (h.h.bl j) rfl (fun _ _ => rfl), h.h.inj, ⟨h.h.fr.os, h.h.fr.tape, h.h.fr.output, h.h.fr.size, h.h.fr.block⟩, h.h.own, h.h.kl, h.h.ox, h.h.xl, h.h.gl.ext hext⟩, fun t => hext.val (h.tm t), h.size, h.defers⟩

structure SRel (X keep : Nat → Prop) (w0 : World) (n : Slots) (ι : Nat → Option Value) (s : St) (a : Act) (w : World) : Prop where
  f : FRel X keep w0 n ι (getT s.tm) (getB s.bl) a w
  dom : ∀ k, s.bl.length ≤ k → ι k = none

theorem getT_cons (d : Nat) (x : AV) (tm : List (Nat × AV)) : getT ((d, x) :: tm) = effT (getT tm) (some d) x := by
  funext t
  show (if Nat.beq d t = true then x else getT tm t) = if some d = some t then x else getT tm t
  by_cases h : d = t
  · subst h
    rw [if_pos rfl, if_pos (Nat.beq_refl d)]
  · rw [if_neg (fun e => h (Nat.eq_of_beq_eq_true e)), if_neg (fun e => h (by injection e))]

theorem dstOk_lt {o : Oper} (h : dstOk n.ok o = true) : ∀ d, o.dst = some d → n.ok d = true := by
  intro d hd
  unfold dstOk at h
  rw [hd] at h
  exact h

theorem stepE_tm (o : Oper) (s : St) (e : Eff) : getT (stepE o s e).tm = effT (getT s.tm) o.dst e.dst := by
  unfold stepE
  cases o.dst with
  | none => funext t; simp [effT]
  | some d => exact getT_cons d e.dst s.tm
theorem stepE_bl (o : Oper) (s : St) (e : Eff) : (stepE o s e).bl = updB s.bl e.upd ++ e.new := by unfold stepE; cases o.dst <;> rfl
theorem stepS_tm (o : Oper) (s : St) : getT (stepS o s).tm = effT (getT s.tm) o.dst .ud := by
  unfold stepS
  cases o.dst with
  | none => funext t; simp [effT]
  | some d => exact getT_cons d .ud s.tm
theorem stepS_bl (o : Oper) (s : St) : (stepS o s).bl = s.bl := by unfold stepS; cases o.dst <;> rfl

/-- An operation that is carried out, in the text's order. -/
theorem SRel.run (hP : TabOK P TT) (hΔ : CallsOK P Δ) {s : St} {a : Act} (h : SRel X keep w0 n ι s a w) {o : Oper} (hd : dstOk n.ok o = true) {e : Eff}
    (hev : evOp TT Δ o (getT s.tm) (getB s.bl) s.bl.length some = some e) (hu : updLt s.bl.length e.upd = true) {K : Act → World → Prop} {Q : Exit → Act → World → Prop}
    (hK : ∀ ι' a' w', SRel X keep w0 n ι' (stepE o s e) a' w' → K a' w') : o.wp P a w K Q := by
  refine Oper.wp_mono ?_ (evOp_sound hP hΔ h.f.h h.f.tm hev (fun k hk _ => h.dom k hk) (Q := Q))
  rintro a' w' ⟨v, rfl, ι', h1, h2, h3, h4⟩
  refine hK ι' _ w' ⟨?_, fun k hk => ?_⟩
  · have := h.f.step (dstOk_lt hd) h1 h2 h3
    rw [stepE_tm, stepE_bl, getB_eff hu]
    exact this
  · rw [stepE_bl, List.length_append, updB_length] at hk
    rw [h4 k (by omega)]
    exact h.dom k (by omega)

theorem SRel.skip {s : St} {a : Act} (h : SRel X keep w0 n ι s a w) {o : Oper} (hd : dstOk n.ok o = true) : SRel X keep w0 n ι (stepS o s) (a.put o.dst undef) w := by
  refine ⟨?_, fun k hk => ?_⟩
  · rw [stepS_tm, stepS_bl]
    exact h.f.step (dstOk_lt hd) h.f.h (Ext.refl _ _ _ _) (by simp only [RelV])
  · rw [stepS_bl] at hk
    exact h.dom k hk

theorem yielded_bool {ops : Array Oper} {a : Act} {j g : Nat} (hg : (ops[j]?).bind (·.dst) = some g) {b : Bool} (hv : a.tmps.getD g undef = .bool b) : yielded ops a.tmps j = some b := by
  unfold yielded
  rw [hg]
  have : a.tmps[g]? = some (.bool b) := by
    rw [Array.getD_eq_getD_getElem?] at hv
    cases hq : a.tmps[g]? with
    | none => rw [hq] at hv; cases hv
    | some u => rw [hq] at hv; rw [← hv]; rfl
  simp [this]

theorem yielded_ud {ops : Array Oper} {a : Act} {j g : Nat} (hg : (ops[j]?).bind (·.dst) = some g) (hv : a.tmps.getD g undef = undef) : yielded ops a.tmps j = none := by
  unfold yielded
  rw [hg]
  show (match a.tmps[g]? with | some (.bool b) => some b | _ => none) = none
  rw [Array.getD_eq_getD_getElem?] at hv
  cases hq : a.tmps[g]? with
  | none => rfl
  | some u => rw [hq] at hv; rw [show u = undef from hv]; rfl

/-- A test that is decided: the state tells the same. -/
theorem SRel.known {s : St} {a : Act} (h : SRel X keep w0 n ι s a w) {g : Nat} {b : Bool} (hg : getT s.tm g = .d .bool b) : SRel X keep w0 n ι ⟨(g, .d .bool b) :: s.tm, s.bl⟩ a w := by
  refine ⟨?_, h.dom⟩
  have : getT ((g, .d .bool b) :: s.tm) = getT s.tm := by
    rw [getT_cons]
    funext t
    unfold effT
    split
    · rename_i e
      injection e with e
      subst e
      exact hg.symm
    · rfl
  rw [this]
  exact h.f

theorem evOpD_false {R : Type} (o : Oper) (s : St) (K : Eff → Option R) : evOpD TT Δ false o s K = evOp TT Δ o (getT s.tm) (getB s.bl) s.bl.length K := rfl

theorem bind_some' {α β : Type} {x : Option α} {f : α → Option β} {r : β} (h : x.bind f = some r) : ∃ y, x = some y ∧ f y = some r := by
  cases x with
  | none => cases h
  | some y => exact ⟨y, rfl, h⟩

theorem evOp_no_defer {R : Type} {o : Oper} {T : Nat → AV} {C : Nat → Blk} {nb : Nat} {K : Eff → Option R} {r : R} (h : evOp TT Δ o T C nb K = some r) : ∀ c, o.op ≠ .defer c := by
  intro c hc
  unfold evOp at h
  rw [hc] at h
  cases h

/-- A region in the text's order. -/
theorem evOps_seq (hP : TabOK P TT) (hΔ : CallsOK P Δ) {ρ : Option Nat} {dp : Nat} {R : Type} {ops : Array Oper} {Q : Exit → Act → World → Prop} {r : R} {K : St → List LogE → Option R} : ∀ (l : List (Nat × Oper)) (s : St) (lg : List LogE) (a : Act) (w : World) (ι : Nat → Option Value),
    (∀ p ∈ l, ops[p.1]? = some p.2) → evOps TT Δ n.ok ops false l s lg K = some r → SRel X keep w0 n ι s a w → (∀ s' lg' a' w' ι', K s' lg' = some r → SRel X keep w0 n ι' s' a' w' → Q .normal a' w') → wpOpsIn (WF ρ) dp P ops Q (l.map (·.1)) a w
  | [], s, lg, a, w, ι, _, hev, h, hQ => hQ s lg a w ι hev h
  | (i, o) :: rest, s, lg, a, w, ι, hl, hev, h, hQ => by
    have hi : ops[i]? = some o := hl (i, o) (List.mem_cons_self ..)
    have hrest := fun p hp => hl p (List.mem_cons_of_mem _ hp)
    simp only [evOps] at hev
    split at hev
    · rename_i hd
      have hrun : ∀ (s : St) (a : Act) (w : World) (ι : Nat → Option Value), SRel X keep w0 n ι s a w → (evOpD TT Δ false o s fun e => if updLt s.bl.length e.upd = true then evOps TT Δ n.ok ops false rest (stepE o s e) (logOf i o s e :: lg) K else none) = some r →
          Region.wanted o (yielded ops a.tmps) = true → wpOpsIn (WF ρ) dp P ops Q (((i, o) :: rest).map (·.1)) a w := by
        intro s a w ι h hev hw
        rw [evOpD_false, evOp_nat hΔ] at hev
        obtain ⟨e, he, hev⟩ := bind_some' hev
        split at hev
        · rename_i hu
          rw [List.map_cons, wpOpsIn_cons]
          unfold wpOpIn
          rw [hi]
          simp only [hw, if_true]
          refine wpIn_of_wp (evOp_no_defer he) (h.run hP hΔ hd he hu fun ι' a' w' h' => ?_)
          exact evOps_seq hP hΔ rest _ _ a' w' ι' hrest hev h' hQ
        · cases hev
      have hskip : ∀ (s : St) (a : Act) (w : World) (ι : Nat → Option Value), SRel X keep w0 n ι s a w → evOps TT Δ n.ok ops false rest (stepS o s) lg K = some r → Region.wanted o (yielded ops a.tmps) = false → wpOpsIn (WF ρ) dp P ops Q (((i, o) :: rest).map (·.1)) a w := by
        intro s a w ι h hev hw
        rw [List.map_cons, wpOpsIn_cons]
        unfold wpOpIn
        rw [hi]
        simp only [hw]
        exact ⟨fun _ _ => trivial, evOps_seq hP hΔ rest _ _ _ w ι hrest hev (h.skip hd) hQ⟩
      split at hev
      · rename_i hg
        exact hrun s a w ι h hev (by simp [Region.wanted, hg])
      · rename_i j want hg
        split at hev
        · cases hev
        · rename_i g hgd
          have htm := h.f.tm g
          split at hev
          · rename_i b hb
            rw [hb, rel_bool] at htm
            have hy := yielded_bool hgd htm
            have hw : Region.wanted o (yielded ops a.tmps) = (b == want) := by
              unfold Region.wanted
              rw [hg]
              simp only [hy]
              cases b <;> cases want <;> rfl
            have hk := h.known hb
            split at hev
            · rename_i hbt
              subst hbt
              split at hev
              · rename_i hwt
                subst hwt
                exact hrun _ a w ι hk hev (by rw [hw]; rfl)
              · rename_i hwt
                have hwt : want = false := by simpa using hwt
                subst hwt
                exact hskip _ a w ι hk hev (by rw [hw]; rfl)
            · rename_i hbt
              have hbt : b = false := by simpa using hbt
              subst hbt
              split at hev
              · rename_i hwt
                subst hwt
                exact hskip _ a w ι hk hev (by rw [hw]; rfl)
              · rename_i hwt
                have hwt : want = false := by simpa using hwt
                subst hwt
                exact hrun _ a w ι hk hev (by rw [hw]; rfl)
          · rename_i hb
            rw [hb] at htm
            simp only [RelV] at htm
            have hy := yielded_ud hgd htm
            exact hskip s a w ι h hev (by unfold Region.wanted; rw [hg]; simp [hy])
          · cases hev
    · cases hev
end
end Go.Proofs.Rf
/- Rf, part m: an operation over what it names alone: all else is as it was. -/
namespace Go.Proofs.Rf
open Go Go.RowKit

theorem memN_iff {k : Nat} : ∀ {l : List Nat}, memN k l = true ↔ k ∈ l
  | [] => by simp [memN]
  | j :: r => by
    simp only [memN, Bool.or_eq_true, List.mem_cons, memN_iff (l := r)]
    constructor
    · rintro (h | h)
      · exact .inl (Nat.eq_of_beq_eq_true h).symm
      · exact .inr h
    · rintro (h | h)
      · subst h; exact .inl (Nat.beq_refl _)
      · exact .inr h

theorem updC_other : ∀ (u : List (Nat × Blk)) (C : Nat → Blk) (k : Nat), k ∉ updIds u → updC C u k = C k
  | [], _, _, _ => rfl
  | (j, b) :: r, C, k, h => by
    simp only [updIds, List.mem_cons, not_or] at h
    show updC (setC C j b) r k = C k
    rw [updC_other r _ k h.2, setC_ne h.1]

theorem updC_congr : ∀ (u : List (Nat × Blk)) (C C' : Nat → Blk) (k : Nat), (C k = C' k ∨ k ∈ updIds u) → updC C u k = updC C' u k
  | [], _, _, _, h => h.resolve_right (by simp [updIds])
  | (j, b) :: r, C, C', k, h => by
    show updC (setC C j b) r k = updC (setC C' j b) r k
    apply updC_congr
    by_cases hk : k = j
    · subst hk; left; rw [setC_self, setC_self]
    · rw [setC_ne hk, setC_ne hk]
      refine h.imp id fun h => ?_
      simp only [updIds, List.mem_cons] at h
      exact h.resolve_left hk

theorem addC_other : ∀ (new : List Blk) (C : Nat → Blk) (nb k : Nat), ¬ (nb ≤ k ∧ k < nb + new.length) → addC C nb new k = C k
  | [], _, _, _, _ => rfl
  | b :: r, C, nb, k, h => by
    show addC (setC C nb b) (nb + 1) r k = C k
    simp only [List.length_cons] at h
    rw [addC_other r _ _ k (by omega), setC_ne (by omega)]

theorem addC_congr : ∀ (new : List Blk) (C C' : Nat → Blk) (nb k : Nat), (C k = C' k ∨ (nb ≤ k ∧ k < nb + new.length)) → addC C nb new k = addC C' nb new k
  | [], _, _, nb, k, h => h.resolve_right (by simp)
  | b :: r, C, C', nb, k, h => by
    show addC (setC C nb b) (nb + 1) r k = addC (setC C' nb b) (nb + 1) r k
    apply addC_congr
    by_cases hk : k = nb
    · subst hk; left; rw [setC_self, setC_self]
    · rw [setC_ne hk, setC_ne hk]
      simp only [List.length_cons] at h
      exact h.imp id fun h => by omega

/-- The blocks that an effect writes. -/
def wrote (nb : Nat) (e : Eff) (k : Nat) : Prop := k ∈ updIds e.upd ∨ (nb ≤ k ∧ k < nb + e.new.length)

theorem effC_other {C : Nat → Blk} {nb : Nat} {e : Eff} {k : Nat} (h : ¬ wrote nb e k) : effC C nb e k = C k := by
  unfold effC
  rw [addC_other _ _ _ _ (fun q => h (.inr q)), updC_other _ _ _ (fun q => h (.inl q))]

theorem effC_congr {C C' : Nat → Blk} {nb : Nat} {e : Eff} {k : Nat} (h : C k = C' k ∨ wrote nb e k) : effC C nb e k = effC C' nb e k := by
  unfold effC
  apply addC_congr
  rcases h with h | h | h
  · exact .inl (updC_congr _ _ _ _ (.inl h))
  · exact .inl (updC_congr _ _ _ _ (.inr h))
  · exact .inr h

section
variable {X keep : Nat → Prop} {w0 w : World} {ι : Nat → Option Value} {C : Nat → Blk} {P : Program} {TT : Tab} {Δ : Nat → Option CallO} {n : Slots}

theorem bk_dead {ι : Nat → Option Value} {C : Nat → Blk} {k : Nat} (h : C k = .dead) : bk ι C k = none := by unfold bk; rw [h]

/-- Blocks that the operation doesn't name: foreign to it. -/
def Foreign (X : Nat → Prop) (ι : Nat → Option Value) (C : Nat → Blk) (m : List Nat) (b : Nat) : Prop := X b ∨ ∃ k, k ∉ m ∧ bk ι C k = some b

theorem resC_in {m : List Nat} {C : Nat → Blk} {k : Nat} (h : k ∈ m) : resC m C k = C k := by unfold resC; rw [if_pos (memN_iff.2 h)]
theorem resC_out {m : List Nat} {C : Nat → Blk} {k : Nat} (h : k ∉ m) : resC m C k = .dead := by unfold resC; rw [if_neg (fun q => h (memN_iff.1 q))]

theorem owned_res {m : List Nat} {b : Nat} : owned ι (resC m C) b ↔ ∃ k, k ∈ m ∧ bk ι C k = some b := by
  constructor
  · rintro ⟨k, hk⟩
    by_cases hm : k ∈ m
    · exact ⟨k, hm, by rw [← hk]; exact (bk_congr (resC_in hm) rfl).symm⟩
    · rw [bk_dead (resC_out hm)] at hk; cases hk
  · rintro ⟨k, hm, hk⟩
    exact ⟨k, by rw [← hk]; exact bk_congr (resC_in hm) rfl⟩

theorem okb_res (m : List Nat) (b : Nat) : okb (Foreign X ι C m) w ι (resC m C) b ↔ okb X w ι C b := by
  constructor
  · rintro ⟨h1, h2, h3⟩
    refine ⟨h1, fun ⟨k, hk⟩ => ?_, fun hx => h3 (.inl hx)⟩
    by_cases hm : k ∈ m
    · exact h2 (owned_res.2 ⟨k, hm, hk⟩)
    · exact h3 (.inr ⟨k, hm, hk⟩)
  · rintro ⟨h1, h2, h3⟩
    refine ⟨h1, fun ho => ?_, ?_⟩
    · obtain ⟨k, _, hk⟩ := owned_res.1 ho
      exact h2 ⟨k, hk⟩
    · rintro (hx | ⟨k, _, hk⟩)
      · exact h3 hx
      · exact h2 ⟨k, hk⟩

theorem HRel.res (h : HRel X keep w0 ι C w) (m : List Nat) : HRel (Foreign X ι C m) (fun b => b < w.heap.size ∧ ¬ owned ι (resC m C) b) w ι (resC m C) w := by
  have hok : okb (Foreign X ι C m) w ι (resC m C) = okb X w ι C := funext fun b => propext (okb_res m b)
  refine ⟨fun k => ?_, fun k k' b h1 h2 => ?_, Kept.refl _ _, fun b hb hk => hk.2 hb, fun b hb => hb.1, fun b hb hx => ?_, fun b hx => ?_, by rw [hok]; exact h.gl⟩
  · rw [hok]
    by_cases hm : k ∈ m
    · rw [resC_in hm]; exact h.bl k
    · rw [resC_out hm]; trivial
  · by_cases hm : k ∈ m
    · by_cases hm' : k' ∈ m
      · rw [bk_congr (resC_in hm) rfl] at h1
        rw [bk_congr (resC_in hm') rfl] at h2
        exact h.inj k k' b h1 h2
      · rw [bk_dead (resC_out hm')] at h2; cases h2
    · rw [bk_dead (resC_out hm)] at h1; cases h1
  · obtain ⟨k, hm, hk⟩ := owned_res.1 hb
    rcases hx with hx | ⟨k', hm', hk'⟩
    · exact h.ox b ⟨k, hk⟩ hx
    · exact hm' (h.inj k k' b hk hk' ▸ hm)
  · rcases hx with hx | ⟨k', _, hk'⟩
    · exact Nat.lt_of_lt_of_le (h.xl b hx) h.fr.size
    · exact h.lt ⟨k', hk'⟩

/-- Back from the named blocks to all. -/
theorem Out.back (h : HRel X keep w0 ι C w) {m : List Nat} {nb : Nat} {e : Eff} {v : Value} {w' : World} (hsub : ∀ k ∈ updIds e.upd, k ∈ m) (hnew : ∀ k, nb ≤ k → k < nb + e.new.length → ι k = none)
    (ho : Out (Foreign X ι C m) (fun b => b < w.heap.size ∧ ¬ owned ι (resC m C) b) w ι (resC m C) w nb e v w') : Out X keep w0 ι C w nb e v w' := by
  obtain ⟨ι', H, E, V, I⟩ := ho
  have hokw : okb (Foreign X ι C m) w ι (resC m C) = okb X w ι C := funext fun b => propext (okb_res m b)
  have hin : ∀ k, k ∈ m ∨ wrote nb e k → effC C nb e k = effC (resC m C) nb e k := fun k hk => effC_congr (hk.imp (fun q => (resC_in q).symm) id)
  have hout : ∀ k, k ∉ m → ¬ wrote nb e k → effC C nb e k = C k ∧ effC (resC m C) nb e k = .dead := fun k h1 h2 => ⟨effC_other h2, by rw [effC_other h2, resC_out h1]⟩
  have hιo : ∀ k, ¬ wrote nb e k → ι' k = ι k := fun k hk => I k (fun q => hk (.inr q))
  have hbn : ∀ k, k ∉ m → wrote nb e k → bk ι C k = none := by
    rintro k h1 (h2 | h2)
    · exact absurd (hsub k h2) h1
    · unfold bk
      rw [hnew k h2.1 h2.2]
      cases C k <;> (try rfl)
      rename_i rw; cases rw <;> rfl
  have hbk : ∀ k, k ∉ m → ¬ wrote nb e k → bk ι' (effC C nb e) k = bk ι C k := fun k h1 h2 => bk_congr (hout k h1 h2).1 (hιo k h2)
  have hbi : ∀ k, k ∈ m ∨ wrote nb e k → bk ι' (effC C nb e) k = bk ι' (effC (resC m C) nb e) k := fun k hk => bk_congr (hin k hk) rfl
  -- who owns what
  have hown : ∀ b, owned ι' (effC C nb e) b ↔ owned ι' (effC (resC m C) nb e) b ∨ ∃ k, k ∉ m ∧ bk ι C k = some b := by
    intro b
    constructor
    · rintro ⟨k, hk⟩
      by_cases hc : k ∈ m ∨ wrote nb e k
      · exact .inl ⟨k, by rw [← hbi k hc]; exact hk⟩
      · simp only [not_or] at hc
        exact .inr ⟨k, hc.1, by rw [← hbk k hc.1 hc.2]; exact hk⟩
    · rintro (⟨k, hk⟩ | ⟨k, hm, hk⟩)
      · by_cases hc : k ∈ m ∨ wrote nb e k
        · exact ⟨k, by rw [hbi k hc]; exact hk⟩
        · simp only [not_or] at hc
          rw [bk_dead (hout k hc.1 hc.2).2] at hk; cases hk
      · by_cases hwr : wrote nb e k
        · rw [hbn k hm hwr] at hk; cases hk
        · exact ⟨k, by rw [hbk k hm hwr]; exact hk⟩
  have hok : okb (Foreign X ι C m) w' ι' (effC (resC m C) nb e) = okb X w' ι' (effC C nb e) := by
    funext b
    apply propext
    constructor
    · rintro ⟨h1, h2, h3⟩
      refine ⟨h1, fun ho => ?_, fun hx => h3 (.inl hx)⟩
      rcases (hown b).1 ho with q | q
      · exact h2 q
      · exact h3 (.inr q)
    · rintro ⟨h1, h2, h3⟩
      refine ⟨h1, fun ho => h2 ((hown b).2 (.inl ho)), ?_⟩
      rintro (hx | q)
      · exact h3 hx
      · exact h2 ((hown b).2 (.inr q))
  have hext : Ext X ι C w ι' (effC C nb e) w' := by
    refine ⟨E.io, fun b hb => ?_, fun b hb => ?_⟩
    · rw [← hok]; exact E.ok b (by rw [hokw]; exact hb)
    · exact E.ce b (by rw [hokw]; exact hb)
  refine ⟨ι', ⟨fun k => ?_, fun k k' b h1 h2 => ?_, ?_, fun b hb hk => ?_, h.kl, fun b hb hx => ?_, h.xl, h.gl.ext hext⟩, hext, by rw [← hok]; exact V, I⟩
  · by_cases hc : k ∈ m ∨ wrote nb e k
    · rw [← hok, hin k hc]; exact H.bl k
    · simp only [not_or] at hc
      refine RelB_keep hext k (h.bl k) (hout k hc.1 hc.2).1 fun b hb => ?_
      refine H.fr.block b ⟨h.lt ⟨k, hb⟩, fun ho => ?_⟩ (h.lt ⟨k, hb⟩)
      obtain ⟨k', hm', hk'⟩ := owned_res.1 ho
      exact hc.1 (h.inj k' k b hk' hb ▸ hm')
  · have cross : ∀ k k', (k ∈ m ∨ wrote nb e k) → ¬ (k' ∈ m ∨ wrote nb e k') → bk ι' (effC C nb e) k = some b → bk ι' (effC C nb e) k' = some b → False := by
      intro k k' hc hc' h1 h2
      simp only [not_or] at hc'
      rw [hbi k hc] at h1
      rw [hbk k' hc'.1 hc'.2] at h2
      exact H.ox b ⟨k, h1⟩ (.inr ⟨k', hc'.1, h2⟩)
    by_cases hc : k ∈ m ∨ wrote nb e k <;> by_cases hc' : k' ∈ m ∨ wrote nb e k'
    · exact H.inj k k' b (by rw [← hbi k hc]; exact h1) (by rw [← hbi k' hc']; exact h2)
    · exact (cross k k' hc hc' h1 h2).elim
    · exact (cross k' k hc' hc h2 h1).elim
    · simp only [not_or] at hc hc'
      exact h.inj k k' b (by rw [← hbk k hc.1 hc.2]; exact h1) (by rw [← hbk k' hc'.1 hc'.2]; exact h2)
  · refine h.fr.trans ⟨H.fr.os, H.fr.tape, H.fr.output, H.fr.size, fun b hb hl => H.fr.block b ⟨hl, fun ho => ?_⟩ hl⟩
    obtain ⟨k, _, hk'⟩ := owned_res.1 ho
    exact h.own b ⟨k, hk'⟩ hb
  · rcases (hown b).1 hb with q | ⟨k, _, hk'⟩
    · refine H.own b q ⟨Nat.lt_of_lt_of_le (h.kl b hk) h.fr.size, fun ho => ?_⟩
      obtain ⟨k, _, hk'⟩ := owned_res.1 ho
      exact h.own b ⟨k, hk'⟩ hk
    · exact h.own b ⟨k, hk'⟩ hk
  · rcases (hown b).1 hb with q | ⟨k, _, hk'⟩
    · exact H.ox b q (.inl hx)
    · exact h.ox b ⟨k, hk'⟩ hx

/-- An operation over what it names alone. -/
theorem evOp_local (hP : TabOK P TT) (hΔ : CallsOK P Δ) {T : Nat → AV} {a : Act} (h : FRel X keep w0 n ι T C a w) {o : Oper} {l m : List Nat} {nb : Nat} {e : Eff}
    (hev : evOp TT Δ o (resT l T) (resC m C) nb (R := Eff) some = some e) (hsub : ∀ k ∈ updIds e.upd, k ∈ m) (hn : ∀ k, nb ≤ k → k < nb + e.new.length → ι k = none) {Q : Exit → Act → World → Prop} :
    o.wp P a w (fun a' w' => ∃ v, a' = a.put o.dst v ∧ Out X keep w0 ι C w nb e v w') Q := by
  have hH := h.h.res m
  have hokw : okb (Foreign X ι C m) w ι (resC m C) = okb X w ι C := funext fun b => propext (okb_res m b)
  have hT : ∀ t, RelV w (okb (Foreign X ι C m) w ι (resC m C)) ι (resT l T t) (a.tmps.getD t undef) := by
    intro t
    rw [hokw]
    unfold resT
    split
    · exact h.tm t
    · simp only [RelV]
  refine Oper.wp_mono ?_ (evOp_sound hP hΔ hH hT hev hn (Q := Q))
  rintro a' w' ⟨v, e1, ho⟩
  exact ⟨v, e1, ho.back h.h hsub hn⟩
end
end Go.Proofs.Rf
/- Rf, part n: a region that draws its order: every order comes to what the text's order comes to. -/
namespace Go.Proofs.Rf
open Go Go.RowKit

/-- One operation of a run in the text's order: the state ahead of it, what it comes to. -/
structure Ent where
  i : Nat
  o : Oper
  T : Nat → AV
  C : Nat → Blk
  nb : Nat
  skip : Bool
  e : Eff

def Ent.dv (x : Ent) : AV := if x.skip = true then .ud else x.e.dst
def Ent.C' (x : Ent) : Nat → Blk := if x.skip = true then x.C else effC x.C x.nb x.e
def Ent.nb' (x : Ent) : Nat := if x.skip = true then x.nb else x.nb + x.e.new.length
def Ent.ids (x : Ent) : List Nat := touchOf x.o x.T x.C
def Ent.log (x : Ent) : LogE := ⟨x.i, x.ids, updIds x.e.upd, rangeN x.nb x.e.new.length⟩

def GuardOn (ops : Array Oper) (T : Nat → AV) (o : Oper) : Prop := o.guard = none ∨ ∃ j want g, o.guard = some (j, want) ∧ (ops[j]?).bind (·.dst) = some g ∧ T g = .d .bool want
def GuardOff (ops : Array Oper) (T : Nat → AV) (o : Oper) : Prop := ∃ j want g, o.guard = some (j, want) ∧ (ops[j]?).bind (·.dst) = some g ∧ (T g = .d .bool (!want) ∨ T g = .ud)

section
variable {X keep : Nat → Prop} {w0 w : World} {ι : Nat → Option Value} {C : Nat → Blk} {P : Program} {TT : Tab} {Δ : Nat → Option CallO} {n : Nat → Bool}

def Tr (TT : Tab) (Δ : Nat → Option CallO) (n : Nat → Bool) (ops : Array Oper) : List (Nat × Oper) → (Nat → AV) → (Nat → Blk) → Nat → List Ent → (Nat → AV) → (Nat → Blk) → Nat → Prop
  | [], T, C, nb, es, T', C', nb' => es = [] ∧ T' = T ∧ C' = C ∧ nb' = nb
  | p :: r, T, C, nb, es, T', C', nb' => ∃ x xs, es = x :: xs ∧ x.i = p.1 ∧ x.o = p.2 ∧ x.T = T ∧ x.C = C ∧ x.nb = nb ∧ dstOk n x.o = true ∧
      (if x.skip = true then GuardOff ops T x.o else GuardOn ops T x.o ∧ evOp TT Δ x.o (resT (opTmps x.o.op.operands.toList) T) (resC x.ids C) nb (R := Eff) some = some x.e) ∧
      Tr TT Δ n ops r (effT T x.o.dst x.dv) x.C' x.nb' xs T' C' nb'

def logsOf : List Ent → List LogE
  | [] => []
  | x :: r => if x.skip = true then logsOf r else logsOf r ++ [x.log]

theorem trace (hΔ : CallsOK P Δ) {R : Type} {ops : Array Oper} {r : R} {K : St → List LogE → Option R} : ∀ (l : List (Nat × Oper)) (s : St) (lg : List LogE), evOps TT Δ n ops true l s lg K = some r →
    ∃ es s' , Tr TT Δ n ops l (getT s.tm) (getB s.bl) s.bl.length es (getT s'.tm) (getB s'.bl) s'.bl.length ∧ K s' (logsOf es ++ lg) = some r
  | [], s, lg, h => ⟨[], s, ⟨rfl, rfl, rfl, rfl⟩, h⟩
  | (i, o) :: rest, s, lg, hev => by
    simp only [evOps] at hev
    split at hev
    · rename_i hd
      have hrun : ∀ (s0 : St), getT s0.tm = getT s.tm → s0.bl = s.bl → GuardOn ops (getT s.tm) o → (evOpD TT Δ true o s0 fun e => if updLt s0.bl.length e.upd = true then evOps TT Δ n ops true rest (stepE o s0 e) (logOf i o s0 e :: lg) K else none) = some r →
          ∃ es s' , Tr TT Δ n ops ((i, o) :: rest) (getT s.tm) (getB s.bl) s.bl.length es (getT s'.tm) (getB s'.bl) s'.bl.length ∧ K s' (logsOf es ++ lg) = some r := by
        intro s0 h1 h2 hg hev
        unfold evOpD at hev
        rw [if_pos rfl, evOp_nat hΔ] at hev
        obtain ⟨e, he, hev⟩ := bind_some' hev
        split at hev
        · rename_i hu
          obtain ⟨es, s', ht, hk⟩ := trace hΔ rest _ _ hev
          rw [stepE_tm, stepE_bl, getB_eff hu, h1] at ht
          rw [h1, h2] at he
          refine ⟨⟨i, o, getT s.tm, getB s.bl, s.bl.length, false, e⟩ :: es, s', ⟨_, _, rfl, rfl, rfl, rfl, rfl, rfl, hd, ?_, ?_⟩, ?_⟩
          · simp only [Bool.false_eq_true, if_false]
            exact ⟨hg, he⟩
          · rw [h2, List.length_append, updB_length] at ht
            exact ht
          · show K s' ((logsOf es ++ [_]) ++ lg) = some r
            rw [List.append_assoc]
            unfold logOf at hk
            rw [h1, h2] at hk
            exact hk
        · cases hev
      have hskip : ∀ (s0 : St), getT s0.tm = getT s.tm → s0.bl = s.bl → GuardOff ops (getT s.tm) o → evOps TT Δ n ops true rest (stepS o s0) lg K = some r →
          ∃ es s' , Tr TT Δ n ops ((i, o) :: rest) (getT s.tm) (getB s.bl) s.bl.length es (getT s'.tm) (getB s'.bl) s'.bl.length ∧ K s' (logsOf es ++ lg) = some r := by
        intro s0 h1 h2 hg hev
        obtain ⟨es, s', ht, hk⟩ := trace hΔ rest _ _ hev
        rw [stepS_tm, stepS_bl, h1, h2] at ht
        exact ⟨⟨i, o, getT s.tm, getB s.bl, s.bl.length, true, ⟨.un, [], []⟩⟩ :: es, s', ⟨_, _, rfl, rfl, rfl, rfl, rfl, rfl, hd, by simp only [if_true]; exact hg, ht⟩, hk⟩
      have hknown : ∀ g b, getT s.tm g = .d .bool b → getT ((g, .d .bool b) :: s.tm) = getT s.tm := by
        intro g b hg
        rw [getT_cons]
        funext t
        unfold effT
        split
        · rename_i e
          injection e with e
          subst e
          exact hg.symm
        · rfl
      split at hev
      · rename_i hg
        exact hrun s rfl rfl (.inl hg) hev
      · rename_i j want hg
        split at hev
        · cases hev
        · rename_i g hgd
          split at hev
          · rename_i b hb
            split at hev
            · rename_i hbt
              subst hbt
              split at hev
              · rename_i hwt
                subst hwt
                exact hrun ⟨(g, .d .bool true) :: s.tm, s.bl⟩ (hknown g _ hb) rfl (.inr ⟨j, true, g, hg, hgd, hb⟩) hev
              · rename_i hwt
                have hwt : want = false := by simpa using hwt
                subst hwt
                exact hskip ⟨(g, .d .bool true) :: s.tm, s.bl⟩ (hknown g _ hb) rfl ⟨j, false, g, hg, hgd, .inl hb⟩ hev
            · rename_i hbt
              have hbt : b = false := by simpa using hbt
              subst hbt
              split at hev
              · rename_i hwt
                subst hwt
                exact hskip ⟨(g, .d .bool false) :: s.tm, s.bl⟩ (hknown g _ hb) rfl ⟨j, true, g, hg, hgd, .inl hb⟩ hev
              · rename_i hwt
                have hwt : want = false := by simpa using hwt
                subst hwt
                exact hrun ⟨(g, .d .bool false) :: s.tm, s.bl⟩ (hknown g _ hb) rfl (.inr ⟨j, false, g, hg, hgd, hb⟩) hev
          · rename_i hb
            exact hskip s rfl rfl ⟨j, want, g, hg, hgd, .inr hb⟩ hev
          · cases hev
    · cases hev

/-! ### The state behind some of the operations -/
def selT (S : Nat → Bool) : List Ent → (Nat → AV) → Nat → AV
  | [], T => T
  | x :: r, T => selT S r (if S x.i = true then effT T x.o.dst x.dv else T)

def selC (S : Nat → Bool) : List Ent → (Nat → Blk) → Nat → Blk
  | [], C => C
  | x :: r, C => selC S r (if S x.i = true ∧ x.skip = false then effC C x.nb x.e else C)

theorem selT_congr {S S' : Nat → Bool} {t : Nat} : ∀ (es : List Ent) (T T' : Nat → AV), T t = T' t → (∀ x ∈ es, x.o.dst = some t → S x.i = S' x.i) → selT S es T t = selT S' es T' t
  | [], _, _, h, _ => h
  | x :: r, T, T', h, hs => by
    refine selT_congr r _ _ ?_ (fun y hy => hs y (List.mem_cons_of_mem _ hy))
    have h1 := hs x (List.mem_cons_self ..)
    by_cases hd : x.o.dst = some t
    · rw [h1 hd]
      split
      · simp only [effT, hd, if_true]
      · exact h
    · have e1 : ∀ T : Nat → AV, effT T x.o.dst x.dv t = T t := fun T => by simp only [effT, hd, if_false]
      split <;> split <;> simp only [e1, h]

theorem selC_congr {S S' : Nat → Bool} {k : Nat} : ∀ (es : List Ent) (C C' : Nat → Blk), C k = C' k → (∀ x ∈ es, x.skip = false → wrote x.nb x.e k → S x.i = S' x.i) → selC S es C k = selC S' es C' k
  | [], _, _, h, _ => h
  | x :: r, C, C', h, hs => by
    refine selC_congr r _ _ ?_ (fun y hy => hs y (List.mem_cons_of_mem _ hy))
    have h1 := hs x (List.mem_cons_self ..)
    by_cases hk : x.skip = false
    · by_cases hd : wrote x.nb x.e k
      · rw [h1 hk hd]
        split
        · exact effC_congr (.inr hd)
        · exact h
      · have e1 : ∀ C : Nat → Blk, effC C x.nb x.e k = C k := fun C => effC_other hd
        split <;> split <;> simp only [e1, h]
    · rw [if_neg (fun q => hk q.2), if_neg (fun q => hk q.2)]
      exact h

theorem selT_none {S : Nat → Bool} {t : Nat} : ∀ (es : List Ent) (T : Nat → AV), (∀ x ∈ es, x.o.dst = some t → S x.i = false) → selT S es T t = T t
  | [], _, _ => rfl
  | x :: r, T, h => by
    show selT S r _ t = T t
    rw [selT_none r _ (fun y hy => h y (List.mem_cons_of_mem _ hy))]
    split
    · rename_i hs
      by_cases hd : x.o.dst = some t
      · rw [h x (List.mem_cons_self ..) hd] at hs; cases hs
      · simp only [effT, hd, if_false]
    · rfl

theorem selC_none {S : Nat → Bool} {k : Nat} : ∀ (es : List Ent) (C : Nat → Blk), (∀ x ∈ es, x.skip = false → wrote x.nb x.e k → S x.i = false) → selC S es C k = C k
  | [], _, _ => rfl
  | x :: r, C, h => by
    show selC S r _ k = C k
    rw [selC_none r _ (fun y hy => h y (List.mem_cons_of_mem _ hy))]
    split
    · rename_i hs
      by_cases hd : wrote x.nb x.e k
      · rw [h x (List.mem_cons_self ..) hs.2 hd] at hs; cases hs.1
      · exact effC_other hd
    · rfl

theorem selT_append (S : Nat → Bool) : ∀ (es fs : List Ent) (T : Nat → AV), selT S (es ++ fs) T = selT S fs (selT S es T)
  | [], _, _ => rfl
  | _ :: r, fs, _ => selT_append S r fs _
theorem selC_append (S : Nat → Bool) : ∀ (es fs : List Ent) (C : Nat → Blk), selC S (es ++ fs) C = selC S fs (selC S es C)
  | [], _, _ => rfl
  | _ :: r, fs, _ => selC_append S r fs _

/-- What a trace tells of its entries. -/
structure EntsOK (TT : Tab) (Δ : Nat → Option CallO) (n : Nat → Bool) (ops : Array Oper) (i0 : Nat) (T : Nat → AV) (C : Nat → Blk) (nb : Nat) (es : List Ent) : Prop where
  split : ∀ x es1 es2, es = es1 ++ x :: es2 → x.T = selT (fun _ => true) es1 T ∧ x.C = selC (fun _ => true) es1 C ∧ x.i = i0 + es1.length ∧ nb ≤ x.nb ∧ dstOk n x.o = true ∧
    (∀ y ∈ es1, y.i < x.i ∧ y.nb' ≤ x.nb) ∧ (∀ y ∈ es2, x.i < y.i ∧ x.nb' ≤ y.nb) ∧
    (if x.skip = true then GuardOff ops x.T x.o else GuardOn ops x.T x.o ∧ evOp TT Δ x.o (resT (opTmps x.o.op.operands.toList) x.T) (resC x.ids x.C) x.nb (R := Eff) some = some x.e)

theorem Ent.nb_le (x : Ent) : x.nb ≤ x.nb' := by unfold Ent.nb'; split <;> omega

theorem Tr.ents {ops : Array Oper} : ∀ (l : List Oper) (i0 : Nat) (T : Nat → AV) (C : Nat → Blk) (nb : Nat) (es : List Ent) (T' : Nat → AV) (C' : Nat → Blk) (nb' : Nat), Tr TT Δ n ops (zipN i0 l) T C nb es T' C' nb' →
    EntsOK TT Δ n ops i0 T C nb es ∧ es.map (·.o) = l ∧ T' = selT (fun _ => true) es T ∧ C' = selC (fun _ => true) es C ∧ nb ≤ nb' ∧ ∀ y ∈ es, i0 ≤ y.i ∧ nb ≤ y.nb ∧ y.nb' ≤ nb'
  | [], i0, T, C, nb, es, T', C', nb', h => by
    obtain ⟨rfl, rfl, rfl, rfl⟩ := h
    exact ⟨⟨fun x es1 es2 h => by simp at h⟩, rfl, rfl, rfl, Nat.le_refl _, by simp⟩
  | o :: r, i0, T, C, nb, es, T', C', nb', h => by
    obtain ⟨x, xs, rfl, h1, h2, h3, h4, h5, h6, h7, h8⟩ := h
    obtain ⟨k1, k2, k3, k4, k5, k6⟩ := Tr.ents r (i0 + 1) _ _ _ xs T' C' nb' h8
    have hx := x.nb_le
    have eT : (if (fun _ => true) x.i = true then effT T x.o.dst x.dv else T) = effT T x.o.dst x.dv := by simp
    have eC : (if (fun _ => true) x.i = true ∧ x.skip = false then effC C x.nb x.e else C) = x.C' := by
      unfold Ent.C'
      cases hsk : x.skip
      · simp [h4]
      · simp [h4]
    refine ⟨⟨fun y es1 es2 he => ?_⟩, by rw [List.map_cons, k2, h2], ?_, ?_, by omega, ?_⟩
    · cases es1 with
      | nil =>
        simp only [List.nil_append, List.cons.injEq] at he
        obtain ⟨rfl, rfl⟩ := he
        refine ⟨h3, h4, h1, by omega, h6, by simp, fun y hy => ?_, ?_⟩
        · obtain ⟨q1, q2, _⟩ := k6 y hy
          rw [h1]
          exact ⟨q1, q2⟩
        · rw [h3, h4, h5]; exact h7
      | cons z es1 =>
        simp only [List.cons_append, List.cons.injEq] at he
        obtain ⟨rfl, rfl⟩ := he
        obtain ⟨q1, q2, q3, q4, q5, q6, q7, q8⟩ := k1.split y es1 es2 rfl
        refine ⟨?_, ?_, by rw [q3, List.length_cons]; omega, by omega, q5, fun u hu => ?_, q7, q8⟩
        · rw [q1]; show _ = selT _ es1 _; rw [eT]
        · rw [q2]; show _ = selC _ es1 _; rw [eC]
        · rcases List.mem_cons.1 hu with rfl | hu
          · rw [h1, q3]; exact ⟨by omega, q4⟩
          · exact q6 u hu
    · rw [k3]; show _ = selT _ xs _; rw [eT]
    · rw [k4]; show _ = selC _ xs _; rw [eC]
    · intro y hy
      rcases List.mem_cons.1 hy with rfl | hy
      · exact ⟨by rw [h1]; exact Nat.le_refl _, by omega, k5⟩
      · obtain ⟨q1, q2, q3⟩ := k6 y hy
        exact ⟨by omega, by omega, q3⟩
end
end Go.Proofs.Rf
/- Rf, part o: the law of regions that draw their order. -/
namespace Go.Proofs.Rf
open Go Go.RowKit

/-! ### What waits for what -/
theorem predsOf_bit {acc : List Nat} {j : Nat} : ∀ (es : List Edge), (predsOf acc es).testBit j = true ↔ ∃ e ∈ es, Region.binds .any e = true ∧ (e.on = j ∨ (acc.getD e.on 0).testBit j = true)
  | [] => by simp [predsOf]
  | e :: r => by
    have ih := predsOf_bit (acc := acc) (j := j) r
    unfold predsOf
    by_cases hb : Region.binds .any e = true
    · rw [if_pos hb, Nat.testBit_or, Nat.testBit_or, Bool.or_eq_true, Bool.or_eq_true, ih, Nat.testBit_two_pow]
      constructor
      · rintro ((⟨e', h1, h2⟩ | h) | h)
        · exact ⟨e', List.mem_cons_of_mem _ h1, h2⟩
        · exact ⟨e, List.mem_cons_self .., hb, .inl (by simpa using h)⟩
        · exact ⟨e, List.mem_cons_self .., hb, .inr h⟩
      · rintro ⟨e', h1, h2, h3⟩
        rcases List.mem_cons.1 h1 with rfl | h1
        · rcases h3 with h3 | h3
          · exact .inl (.inr (by simpa using h3))
          · exact .inr h3
        · exact .inl (.inl ⟨e', h1, h2, h3⟩)
    · rw [if_neg hb, ih]
      constructor
      · rintro ⟨e', h1, h2⟩
        exact ⟨e', List.mem_cons_of_mem _ h1, h2⟩
      · rintro ⟨e', h1, h2, h3⟩
        rcases List.mem_cons.1 h1 with rfl | h1
        · exact absurd h2 hb
        · exact ⟨e', h1, h2, h3⟩

theorem masks_prefix : ∀ (l : List Oper) (acc : List Nat), ∃ r, masks l acc = acc ++ r ∧ r.length = l.length
  | [], acc => ⟨[], by simp [masks], rfl⟩
  | o :: l, acc => by
    obtain ⟨r, h1, h2⟩ := masks_prefix l (acc ++ [predsOf acc o.after.toList])
    exact ⟨predsOf acc o.after.toList :: r, by rw [masks, h1]; simp, by simp [h2]⟩

theorem masks_at : ∀ (l : List Oper) (acc : List Nat) (k : Nat) (o : Oper), l[k]? = some o → (masks l acc).getD (acc.length + k) 0 = predsOf ((masks l acc).take (acc.length + k)) o.after.toList
  | [], _, k, _, h => by simp at h
  | o' :: l, acc, 0, o, h => by
    simp only [List.getElem?_cons_zero, Option.some.injEq] at h
    subst h
    obtain ⟨r, h1, _⟩ := masks_prefix l (acc ++ [predsOf acc o'.after.toList])
    rw [masks, h1, Nat.add_zero, List.append_assoc]
    simp
  | o' :: l, acc, k + 1, o, h => by
    have := masks_at l (acc ++ [predsOf acc o'.after.toList]) k o (by simpa using h)
    rw [List.length_append, List.length_singleton, Nat.add_assoc, Nat.add_comm 1 k] at this
    exact this

/-- d waits for j. -/
def PB (ops : Array Oper) (d j : Nat) : Prop := ((masks ops.toList []).getD d 0).testBit j = true

theorem edgesOk_at : ∀ (l : List Oper) (i k : Nat) (o : Oper), edgesOk i l = true → l[k]? = some o → ∀ e ∈ o.after.toList, Region.binds .any e = true → e.on < i + k
  | [], _, _, _, _, h, _, _, _ => by simp at h
  | o' :: l, i, 0, o, he, h, e, hm, hb => by
    simp only [List.getElem?_cons_zero, Option.some.injEq] at h
    subst h
    simp only [edgesOk, Bool.and_eq_true, List.all_eq_true] at he
    have := he.1 e hm
    simp only [hb, Bool.not_true, Bool.false_or] at this
    exact Nat.le_of_ble_eq_true this
  | o' :: l, i, k + 1, o, he, h, e, hm, hb => by
    simp only [edgesOk, Bool.and_eq_true] at he
    have := edgesOk_at l (i + 1) k o he.2 (by simpa using h) e hm hb
    omega

section
variable {ops : Array Oper} (hE : edgesOk 0 ops.toList = true)
include hE

theorem PB_iff {d : Nat} {o : Oper} (ho : ops[d]? = some o) (j : Nat) : PB ops d j ↔ ∃ e ∈ o.after.toList, Region.binds .any e = true ∧ (e.on = j ∨ PB ops e.on j) := by
  have ho' : ops.toList[d]? = some o := by rw [Array.getElem?_toList]; exact ho
  unfold PB
  have h1 := masks_at ops.toList [] d o ho'
  simp only [List.length_nil, Nat.zero_add] at h1
  rw [h1, predsOf_bit]
  constructor
  · rintro ⟨e, h2, h3, h4⟩
    have hlt := edgesOk_at ops.toList 0 d o hE ho' e h2 h3
    refine ⟨e, h2, h3, h4.imp id fun h => ?_⟩
    rwa [List.getD_eq_getElem?_getD, List.getElem?_take, if_pos (by omega), ← List.getD_eq_getElem?_getD] at h
  · rintro ⟨e, h2, h3, h4⟩
    have hlt := edgesOk_at ops.toList 0 d o hE ho' e h2 h3
    refine ⟨e, h2, h3, h4.imp id fun h => ?_⟩
    rwa [List.getD_eq_getElem?_getD, List.getElem?_take, if_pos (by omega), ← List.getD_eq_getElem?_getD]

theorem PB_lt : ∀ (m d j : Nat), d ≤ m → PB ops d j → j < d
  | m, d, j, hm, h => by
    by_cases hd : d < ops.size
    · obtain ⟨o, ho⟩ : ∃ o, ops[d]? = some o := ⟨ops[d], Array.getElem?_eq_getElem hd⟩
      obtain ⟨e, h1, h2, h3⟩ := (PB_iff hE ho j).1 h
      have hlt := edgesOk_at ops.toList 0 d o hE (by rw [Array.getElem?_toList]; exact ho) e h1 h2
      rcases h3 with rfl | h3
      · omega
      · cases m with
        | zero => omega
        | succ m =>
          have := PB_lt m e.on j (by omega) h3
          omega
    · unfold PB at h
      obtain ⟨r, h1, h2⟩ := masks_prefix ops.toList []
      rw [List.getD_eq_getElem?_getD, List.getElem?_eq_none (by rw [h1]; simp [h2]; omega)] at h
      simp at h
end

/-- What is listed is shut: with an operation, all that it waits for. -/
def Shut (ops : Array Oper) (S : Nat → Bool) : Prop := ∀ d j, S d = true → PB ops d j → S j = true

theorem logOk1_at {B : List Nat} {a : LogE} : ∀ {l : List LogE}, logOk1 B a l = true → ∀ b ∈ l, apartL a b = true ∨ waits B a.i b.i = true
  | [], _, b, h => by simp at h
  | c :: r, hl, b, h => by
    simp only [logOk1, Bool.and_eq_true, Bool.or_eq_true] at hl
    rcases List.mem_cons.1 h with rfl | h
    · exact hl.1
    · exact logOk1_at hl.2 b h

theorem meetN_false {l m : List Nat} (h : meetN l m = false) : ∀ k ∈ l, k ∉ m := by
  induction l with
  | nil => simp
  | cons j r ih =>
    simp only [meetN, Bool.or_eq_false_iff] at h
    intro k hk
    rcases List.mem_cons.1 hk with rfl | hk
    · intro hm
      rw [memN_iff.2 hm] at h
      cases h.1
    · exact ih h.2 k hk

theorem apartL_symm {a b : LogE} (h : apartL a b = true) : apartL b a = true := by
  unfold apartL at h ⊢
  rw [Bool.and_comm]
  exact h

theorem waits_symm {B : List Nat} {i j : Nat} (h : waits B i j = true) : waits B j i = true := by
  unfold waits at h ⊢
  rw [Bool.or_comm]
  exact h

theorem logOk_at {B : List Nat} : ∀ {l : List LogE}, logOk B l = true → (∀ a ∈ l, subN a.wr a.touch = true) ∧ ∀ a ∈ l, ∀ b ∈ l, a = b ∨ apartL a b = true ∨ waits B a.i b.i = true
  | [], _ => by simp
  | c :: r, h => by
    simp only [logOk, Bool.and_eq_true] at h
    obtain ⟨h1, h2⟩ := logOk_at h.2
    refine ⟨fun a ha => ?_, fun a ha b hb => ?_⟩
    · rcases List.mem_cons.1 ha with rfl | ha
      · exact h.1.1
      · exact h1 a ha
    · rcases List.mem_cons.1 ha with rfl | ha' <;> rcases List.mem_cons.1 hb with rfl | hb'
      · exact .inl rfl
      · exact .inr (logOk1_at h.1.2 b hb')
      · exact .inr ((logOk1_at h.1.2 a ha').imp apartL_symm waits_symm)
      · exact h2 a ha' b hb'

theorem subN_iff : ∀ {l m : List Nat}, subN l m = true → ∀ k ∈ l, k ∈ m
  | [], _, _, k, h => by simp at h
  | j :: r, m, hs, k, h => by
    simp only [subN, Bool.and_eq_true] at hs
    rcases List.mem_cons.1 h with rfl | h
    · exact memN_iff.1 hs.1
    · exact subN_iff hs.2 k h

theorem mem_rangeN : ∀ {m a k : Nat}, k ∈ rangeN a m ↔ a ≤ k ∧ k < a + m
  | 0, a, k => by simp [rangeN]
  | m + 1, a, k => by
    simp only [rangeN, List.mem_cons, mem_rangeN (m := m)]
    omega

theorem mem_logsOf {x : Ent} : ∀ {es : List Ent}, x ∈ es → x.skip = false → x.log ∈ logsOf es
  | [], h, _ => by simp at h
  | y :: r, h, hs => by
    unfold logsOf
    rcases List.mem_cons.1 h with rfl | h
    · rw [if_neg (by simp [hs])]
      exact List.mem_append_right _ (List.mem_singleton.2 rfl)
    · split
      · exact mem_logsOf h hs
      · exact List.mem_append_left _ (mem_logsOf h hs)

theorem tmpsOk1_at {ops : Array Oper} {B : List Nat} {i : Nat} {x : Oper} : ∀ (l : List Oper) (j k : Nat) (y : Oper), tmpsOk1 ops B i x j l = true → l[k]? = some y → waits B i (j + k) = true ∨ x.apart ops y = true
  | [], _, _, _, _, h => by simp at h
  | y' :: l, j, 0, y, ht, h => by
    simp only [List.getElem?_cons_zero, Option.some.injEq] at h
    subst h
    simp only [tmpsOk1, Bool.and_eq_true, Bool.or_eq_true] at ht
    exact ht.1
  | y' :: l, j, k + 1, y, ht, h => by
    simp only [tmpsOk1, Bool.and_eq_true] at ht
    have := tmpsOk1_at l (j + 1) k y ht.2 (by simpa using h)
    rwa [show j + (k + 1) = j + 1 + k by omega]

theorem tmpsOk_at {ops : Array Oper} {B : List Nat} : ∀ (l : List Oper) (i k k' : Nat) (x y : Oper), tmpsOk ops B i l = true → k < k' → l[k]? = some x → l[k']? = some y → waits B (i + k) (i + k') = true ∨ x.apart ops y = true
  | [], _, _, _, _, _, _, _, h, _ => by simp at h
  | x' :: l, i, 0, k', x, y, ht, hlt, hx, hy => by
    simp only [List.getElem?_cons_zero, Option.some.injEq] at hx
    subst hx
    simp only [tmpsOk, Bool.and_eq_true] at ht
    obtain ⟨m, rfl⟩ : ∃ m, k' = m + 1 := ⟨k' - 1, by omega⟩
    have := tmpsOk1_at l (i + 1) m y ht.1 (by simpa using hy)
    rwa [Nat.add_zero, show i + (m + 1) = i + 1 + m by omega]
  | x' :: l, i, k + 1, k', x, y, ht, hlt, hx, hy => by
    simp only [tmpsOk, Bool.and_eq_true] at ht
    obtain ⟨m, rfl⟩ : ∃ m, k' = m + 1 := ⟨k' - 1, by omega⟩
    have := tmpsOk_at l (i + 1) k m x y ht.2 (by omega) (by simpa using hx) (by simpa using hy)
    rwa [show i + (k + 1) = i + 1 + k by omega, show i + (m + 1) = i + 1 + m by omega]

/-- Of two operations that don't wait for each other none writes what the other looks at. -/
theorem apart_both {ops : Array Oper} {x y : Oper} (h : x.apart ops y = true ∨ y.apart ops x = true) : ∀ d, x.dst = some d → d ∉ y.looksAt ops ∧ y.dst ≠ some d := by
  intro d hd
  rcases h with h | h
  · obtain ⟨h1, h2, h3⟩ := Oper.apart_spec h
    exact ⟨h1 d hd, h2 d hd⟩
  · obtain ⟨h1, h2, h3⟩ := Oper.apart_spec h
    exact ⟨h3 d hd, fun e => h2 d e hd⟩

theorem mem_opTmps {t : Nat} : ∀ {l : List Operand}, t ∈ opTmps l → Operand.tmp t ∈ l
  | [], h => by simp [opTmps] at h
  | .tmp u :: r, h => by
    simp only [opTmps, List.mem_cons] at h
    rcases h with rfl | h
    · exact List.mem_cons_self ..
    · exact List.mem_cons_of_mem _ (mem_opTmps h)
  | .const _ :: r, h => List.mem_cons_of_mem _ (mem_opTmps (l := r) h)
  | .global _ :: r, h => List.mem_cons_of_mem _ (mem_opTmps (l := r) h)
  | .func _ :: r, h => List.mem_cons_of_mem _ (mem_opTmps (l := r) h)

theorem looks_op {ops : Array Oper} {o : Oper} {t : Nat} (h : t ∈ opTmps o.op.operands.toList) : t ∈ o.looksAt ops := by
  unfold Oper.looksAt
  exact List.mem_append_left _ (List.mem_filterMap.2 ⟨.tmp t, mem_opTmps h, rfl⟩)

theorem looks_guard {ops : Array Oper} {o : Oper} {j g : Nat} {want : Bool} (h : o.guard = some (j, want)) (hg : (ops[j]?).bind (·.dst) = some g) : g ∈ o.looksAt ops := by
  unfold Oper.looksAt
  rw [h]
  exact List.mem_append_right _ (by simp [hg])
end Go.Proofs.Rf
