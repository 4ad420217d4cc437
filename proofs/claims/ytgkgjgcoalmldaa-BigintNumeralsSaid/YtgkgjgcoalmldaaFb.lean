/- Rf, part b: what it means that data, values and blocks of the abstract evaluator lie in a world; how that is kept. -/
import Derived.Test.YtgkgjgcoalmldaaFa
import Derived.Below
import Derived.Maps.AppendAt
import Derived.Laws.Rows
namespace Go.Proofs.Rf
open Go Go.RowKit

/-! ### Data by value -/
def RzL {α : Type} (D : α → List Value → Prop) : List α → List Value → Prop
  | [], vs => vs = []
  | x :: r, vs => ∃ us vr, vs = us ++ vr ∧ D x us ∧ RzL D r vr

/-- Data t x is what the cells vs say; what its slices lead to lies in blocks of ok. -/
def Rz (w : World) (ok : Nat → Prop) : (t : Ty) → t.den → List Value → Prop
  | .int k, n, vs => vs = [.int k n]
  | .bool, b, vs => vs = [.bool b]
  | .str, s, vs => vs = [.string ⟨s.toArray⟩]
  | .sl t, xs, vs => ∃ A c, vs = [.slice A xs.length c] ∧ xs.length ≤ c ∧
      (0 < xs.length → ∃ g o cs, A = some ⟨g, o, none⟩ ∧ ok g ∧ RzL (Rz w ok t) xs cs ∧ ∀ j u, cs[j]? = some u → w.cell? ⟨g, o + j, none⟩ = some u)
  | .pr a b, x, vs => ∃ us vr, vs = us ++ vr ∧ Rz w ok a x.1 us ∧ Rz w ok b x.2 vr
  | .un, _, vs => vs = []
  | .fk f, _, vs => vs = [.func (.func f) #[] #[]]

theorem RzL_mono {α : Type} {D D' : α → List Value → Prop} (h : ∀ x us, D x us → D' x us) : ∀ {xs : List α} {vs : List Value}, RzL D xs vs → RzL D' xs vs
  | [], _, hh => hh
  | _ :: _, _, ⟨us, vr, e, hx, hr⟩ => ⟨us, vr, e, h _ _ hx, RzL_mono h hr⟩

theorem RzL_append {α : Type} {D : α → List Value → Prop} : ∀ {xs ys : List α} {us vs : List Value}, RzL D xs us → RzL D ys vs → RzL D (xs ++ ys) (us ++ vs)
  | [], _, _, _, h, k => by
    have h : _ = [] := h
    subst h
    exact k
  | _ :: _, _, _, _, ⟨u1, vr, e, hx, hr⟩, k => ⟨u1, vr ++ _, by rw [e, List.append_assoc], hx, RzL_append hr k⟩

theorem RzL_length {α : Type} {D : α → List Value → Prop} {n : Nat} (hD : ∀ x us, D x us → us.length = n) : ∀ {xs : List α} {vs : List Value}, RzL D xs vs → vs.length = xs.length * n
  | [], _, h => by
    have h : _ = [] := h
    subst h
    simp
  | _ :: r, _, ⟨us, vr, e, hx, hr⟩ => by
    rw [e, List.length_append, hD _ _ hx, RzL_length hD hr, List.length_cons, Nat.add_mul, Nat.one_mul, Nat.add_comm]

/-- Element i's cells. -/
theorem RzL_get {α : Type} {D : α → List Value → Prop} {n : Nat} (hD : ∀ x us, D x us → us.length = n) : ∀ {xs : List α} {vs : List Value} (i : Nat) (x : α), RzL D xs vs → xs[i]? = some x →
    ∃ us, D x us ∧ us.length = n ∧ ∀ j u, us[j]? = some u → vs[i * n + j]? = some u
  | [], _, i, _, _, h => by simp at h
  | y :: r, _, 0, x, ⟨us, vr, e, hx, hr⟩, h => by
    simp only [List.getElem?_cons_zero, Option.some.injEq] at h
    subst h
    refine ⟨us, hx, hD _ _ hx, fun j u hu => ?_⟩
    have hj : j < us.length := by
      rcases Nat.lt_or_ge j us.length with h1 | h1
      · exact h1
      · rw [List.getElem?_eq_none h1] at hu; cases hu
    rw [e, Nat.zero_mul, Nat.zero_add, List.getElem?_append_left hj, hu]
  | y :: r, _, i + 1, x, ⟨us, vr, e, hx, hr⟩, h => by
    obtain ⟨us', h1, h2, h3⟩ := RzL_get hD i x hr (by simpa using h)
    refine ⟨us', h1, h2, fun j u hu => ?_⟩
    have hl := hD _ _ hx
    rw [e, List.getElem?_append_right (by rw [hl, Nat.add_mul]; omega), hl]
    have : (i + 1) * n + j - n = i * n + j := by rw [Nat.add_mul]; omega
    rw [this]
    exact h3 j u hu

theorem RzL_drop {α : Type} {D : α → List Value → Prop} {n : Nat} (hD : ∀ x us, D x us → us.length = n) : ∀ {xs : List α} {vs : List Value} (k : Nat), RzL D xs vs → RzL D (xs.drop k) (vs.drop (k * n))
  | xs, vs, 0, h => by simpa using h
  | [], _, k + 1, h => by
    have h : _ = [] := h
    subst h
    simp [RzL]
  | _ :: r, _, k + 1, ⟨us, vr, e, hx, hr⟩ => by
    have hl := hD _ _ hx
    have h1 : (k + 1) * n = us.length + k * n := by rw [hl, Nat.add_mul]; omega
    rw [List.drop_succ_cons, e, h1, List.drop_length_add_append]
    exact RzL_drop hD k hr

theorem RzL_take {α : Type} {D : α → List Value → Prop} {n : Nat} (hD : ∀ x us, D x us → us.length = n) : ∀ {xs : List α} {vs : List Value} (k : Nat), RzL D xs vs → RzL D (xs.take k) (vs.take (k * n))
  | xs, vs, 0, h => by simp [RzL]
  | [], _, k + 1, h => by
    have h : _ = [] := h
    subst h
    simp [RzL]
  | _ :: r, _, k + 1, ⟨us, vr, e, hx, hr⟩ => by
    have hl := hD _ _ hx
    refine ⟨us, vr.take (k * n), ?_, hx, RzL_take hD k hr⟩
    rw [e, List.take_append, hl, List.take_of_length_le (by rw [hl, Nat.add_mul]; omega)]
    congr 2
    rw [Nat.add_mul]; omega

theorem RzL_set {α : Type} {D : α → List Value → Prop} {n : Nat} (hD : ∀ x us, D x us → us.length = n) : ∀ {xs : List α} {vs : List Value} (i : Nat) (y : α) (us : List Value), RzL D xs vs → i < xs.length → D y us →
    RzL D (xs.set i y) (vs.take (i * n) ++ us ++ vs.drop (i * n + n))
  | [], _, i, _, _, _, h, _ => by simp at h
  | x :: r, _, 0, y, us, ⟨u1, vr, e, hx, hr⟩, _, hy => by
    have hl := hD _ _ hx
    refine ⟨us, vr, ?_, hy, hr⟩
    rw [e, Nat.zero_mul, List.take_zero, List.nil_append, Nat.zero_add, ← hl, List.drop_left]
  | x :: r, _, i + 1, y, us, ⟨u1, vr, e, hx, hr⟩, hi, hy => by
    have hl := hD _ _ hx
    refine ⟨u1, _, ?_, hx, RzL_set hD i y us hr (by simpa using hi) hy⟩
    have h1 : (i + 1) * n = u1.length + i * n := by rw [hl, Nat.add_mul]; omega
    rw [e, h1, List.take_length_add_append, Nat.add_assoc, List.drop_length_add_append]
    simp only [List.append_assoc]

theorem RzL_replicate {α : Type} {D : α → List Value → Prop} {x : α} {us : List Value} (h : D x us) : ∀ n, RzL D (List.replicate n x) (List.replicate n us).flatten
  | 0 => rfl
  | n + 1 => ⟨us, _, by rw [List.replicate_succ, List.flatten_cons], h, RzL_replicate h n⟩

theorem Rz_length {w : World} {ok : Nat → Prop} : ∀ (t : Ty) (x : t.den) (us : List Value), Rz w ok t x us → us.length = t.size
  | .int _, _, _, h => by rw [show _ = _ from h]; rfl
  | .bool, _, _, h => by rw [show _ = _ from h]; rfl
  | .str, _, _, h => by rw [show _ = _ from h]; rfl
  | .sl _, _, _, ⟨A, c, e, _⟩ => by rw [e]; rfl
  | .pr a b, _, _, ⟨us, vr, e, h1, h2⟩ => by rw [e, List.length_append, Rz_length a _ _ h1, Rz_length b _ _ h2]; rfl
  | .un, _, _, h => by rw [show _ = _ from h]; rfl
  | .fk _, _, _, h => by rw [show _ = _ from h]; rfl

theorem Rz_mono {w w' : World} {ok ok' : Nat → Prop} (hc : ∀ g o v, ok g → w.cell? ⟨g, o, none⟩ = some v → w'.cell? ⟨g, o, none⟩ = some v) (hok : ∀ g, ok g → ok' g) :
    ∀ (t : Ty) (x : t.den) (us : List Value), Rz w ok t x us → Rz w' ok' t x us
  | .int _, _, _, h => h
  | .bool, _, _, h => h
  | .str, _, _, h => h
  | .sl t, _, _, ⟨A, c, e, hl, h⟩ => ⟨A, c, e, hl, fun hp => by
      obtain ⟨g, o, cs, e1, e2, e3, e4⟩ := h hp
      exact ⟨g, o, cs, e1, hok _ e2, RzL_mono (Rz_mono hc hok t) e3, fun j u hu => hc _ _ _ e2 (e4 j u hu)⟩⟩
  | .pr a b, _, _, ⟨us, vr, e, h1, h2⟩ => ⟨us, vr, e, Rz_mono hc hok a _ _ h1, Rz_mono hc hok b _ _ h2⟩
  | .un, _, _, h => h
  | .fk _, _, _, h => h

/-- Every cell of data is one cell. -/
theorem Rz_one {w : World} {ok : Nat → Prop} : ∀ (t : Ty) (x : t.den) (us : List Value), Rz w ok t x us → ∀ u ∈ us, u.oneCell' = true
  | .int _, _, _, h => by rw [show _ = _ from h]; simp [Value.oneCell']
  | .bool, _, _, h => by rw [show _ = _ from h]; simp [Value.oneCell']
  | .str, _, _, h => by rw [show _ = _ from h]; simp [Value.oneCell']
  | .sl _, _, _, ⟨A, c, e, _⟩ => by rw [e]; simp [Value.oneCell']
  | .pr a b, _, _, ⟨us, vr, e, h1, h2⟩ => by
    rw [e]
    intro u hu
    rcases List.mem_append.1 hu with h | h
    · exact Rz_one a _ _ h1 u h
    · exact Rz_one b _ _ h2 u h
  | .un, _, _, h => by rw [show _ = _ from h]; simp
  | .fk _, _, _, h => by rw [show _ = _ from h]; simp [Value.oneCell']

theorem RzL_one {w : World} {ok : Nat → Prop} {t : Ty} : ∀ {xs : List t.den} {us : List Value}, RzL (Rz w ok t) xs us → ∀ u ∈ us, u.oneCell' = true
  | [], _, h => by
    have h : _ = [] := h
    subst h
    simp
  | _ :: _, _, ⟨us, vr, e, h1, h2⟩ => by
    rw [e]
    intro u hu
    rcases List.mem_append.1 hu with h | h
    · exact Rz_one t _ _ h1 u h
    · exact RzL_one h2 u h

/-! ### Values -/
mutual
def RelV (w : World) (ok : Nat → Prop) (ι : Nat → Option Value) : AV → Value → Prop
  | .d t x, v => Rz w ok t x [v]
  | .un, _ => True
  | .ud, v => v = undef
  | .nl, v => v = .slice none 0 0
  | .ub, v => ∃ b, v = .bool b
  | .np, v => v = .pointer none
  | .rf b, v => ι b = some v ∧ ∃ A n c, v = .slice A n c
  | .rs b sz off len, v => ∃ A n c A' c', ι b = some (.slice A n c) ∧ off + len ≤ n ∧ v = .slice A' len c' ∧ len ≤ c' ∧ (0 < len → ∃ g, A = some ⟨g, 0, none⟩ ∧ A' = some ⟨g, off * sz, none⟩) ∧ (off = 0 → A' = A ∧ c' = c)
  | .pt b o, v => ∃ g, ι b = some (.pointer (some ⟨g, 0, none⟩)) ∧ v = .pointer (some ⟨g, o, none⟩)
  | .pe b sz i o, v => ∃ g n c, ι b = some (.slice (some ⟨g, 0, none⟩) n c) ∧ i < n ∧ v = .pointer (some ⟨g, i * sz + o, none⟩)
  | .ve cs, v => ∃ g o us, v = .pointer (some ⟨g, o, none⟩) ∧ ok g ∧ RelL w ok ι cs us ∧ ∀ j u, us[j]? = some u → w.cell? ⟨g, o + j, none⟩ = some u
  | .ag cs, v => ∃ us : List Value, v = .agg us.toArray ∧ RelL w ok ι cs us
  | .tp cs, v => ∃ us : List Value, v = .tuple us.toArray ∧ RelL w ok ι cs us
  | .fn f cs, v => ∃ us : List Value, v = .func (.func f) #[] us.toArray ∧ RelL w ok ι cs us
  | .fm f cs, v => ∃ us : List Value, v = .func (.func f) us.toArray #[] ∧ RelL w ok ι cs us
def RelL (w : World) (ok : Nat → Prop) (ι : Nat → Option Value) : List AV → List Value → Prop
  | [], vs => vs = []
  | a :: r, vs => ∃ v vr, vs = v :: vr ∧ RelV w ok ι a v ∧ RelL w ok ι r vr
end

section
variable {w w' : World} {ok ok' : Nat → Prop} {ι ι' : Nat → Option Value}

mutual
theorem RelV_mono (hc : ∀ g o v, ok g → w.cell? ⟨g, o, none⟩ = some v → w'.cell? ⟨g, o, none⟩ = some v) (hok : ∀ g, ok g → ok' g) (hι : ∀ k v, ι k = some v → ι' k = some v) :
    ∀ (a : AV) (v : Value), RelV w ok ι a v → RelV w' ok' ι' a v
  | .d t x, v, h => by
    simp only [RelV] at h ⊢
    exact Rz_mono hc hok t x _ h
  | .un, v, h => by simp only [RelV]
  | .ud, v, h => by simpa only [RelV] using h
  | .nl, v, h => by simpa only [RelV] using h
  | .ub, v, h => by simpa only [RelV] using h
  | .np, v, h => by simpa only [RelV] using h
  | .rf b, v, h => by
    simp only [RelV] at h ⊢
    exact ⟨hι _ _ h.1, h.2⟩
  | .rs b sz off len, v, h => by
    simp only [RelV] at h ⊢
    obtain ⟨A, n, c, A', c', h1, h2⟩ := h
    exact ⟨A, n, c, A', c', hι _ _ h1, h2⟩
  | .pt b o, v, h => by
    simp only [RelV] at h ⊢
    obtain ⟨g, h1, h2⟩ := h
    exact ⟨g, hι _ _ h1, h2⟩
  | .pe b sz i o, v, h => by
    simp only [RelV] at h ⊢
    obtain ⟨g, n, c, h1, h2⟩ := h
    exact ⟨g, n, c, hι _ _ h1, h2⟩
  | .ve cs, v, h => by
    simp only [RelV] at h ⊢
    obtain ⟨g, o, us, h1, h2, h3, h4⟩ := h
    exact ⟨g, o, us, h1, hok _ h2, RelL_mono hc hok hι cs us h3, fun j u hu => hc _ _ _ h2 (h4 j u hu)⟩
  | .ag cs, v, h => by
    simp only [RelV] at h ⊢
    obtain ⟨us, h1, h2⟩ := h
    exact ⟨us, h1, RelL_mono hc hok hι cs us h2⟩
  | .tp cs, v, h => by
    simp only [RelV] at h ⊢
    obtain ⟨us, h1, h2⟩ := h
    exact ⟨us, h1, RelL_mono hc hok hι cs us h2⟩
  | .fn f cs, v, h => by
    simp only [RelV] at h ⊢
    obtain ⟨us, h1, h2⟩ := h
    exact ⟨us, h1, RelL_mono hc hok hι cs us h2⟩
  | .fm f cs, v, h => by
    simp only [RelV] at h ⊢
    obtain ⟨us, h1, h2⟩ := h
    exact ⟨us, h1, RelL_mono hc hok hι cs us h2⟩
theorem RelL_mono (hc : ∀ g o v, ok g → w.cell? ⟨g, o, none⟩ = some v → w'.cell? ⟨g, o, none⟩ = some v) (hok : ∀ g, ok g → ok' g) (hι : ∀ k v, ι k = some v → ι' k = some v) :
    ∀ (cs : List AV) (us : List Value), RelL w ok ι cs us → RelL w' ok' ι' cs us
  | [], us, h => by simpa only [RelL] using h
  | a :: r, us, h => by
    simp only [RelL] at h ⊢
    obtain ⟨v, vr, h1, h2, h3⟩ := h
    exact ⟨v, vr, h1, RelV_mono hc hok hι a v h2, RelL_mono hc hok hι r vr h3⟩
end

theorem RelL_nil {us : List Value} : RelL w ok ι [] us ↔ us = [] := by simp only [RelL]
theorem RelL_cons {a : AV} {r : List AV} {us : List Value} : RelL w ok ι (a :: r) us ↔ ∃ v vr, us = v :: vr ∧ RelV w ok ι a v ∧ RelL w ok ι r vr := by simp only [RelL]

theorem RelL_length : ∀ {cs : List AV} {us : List Value}, RelL w ok ι cs us → us.length = cs.length
  | [], _, h => by rw [RelL_nil.1 h]; rfl
  | _ :: r, _, h => by
    obtain ⟨v, vr, e, _, h2⟩ := RelL_cons.1 h
    rw [e, List.length_cons, List.length_cons, RelL_length h2]

theorem RelL_append : ∀ {cs ds : List AV} {us vs : List Value}, RelL w ok ι cs us → RelL w ok ι ds vs → RelL w ok ι (cs ++ ds) (us ++ vs)
  | [], _, _, _, h, k => by rw [RelL_nil.1 h]; exact k
  | _ :: r, _, _, _, h, k => by
    obtain ⟨v, vr, e, h1, h2⟩ := RelL_cons.1 h
    exact RelL_cons.2 ⟨v, vr ++ _, by rw [e]; rfl, h1, RelL_append h2 k⟩

theorem RelL_split : ∀ {cs ds : List AV} {us : List Value}, RelL w ok ι (cs ++ ds) us → ∃ u1 u2, us = u1 ++ u2 ∧ RelL w ok ι cs u1 ∧ RelL w ok ι ds u2
  | [], _, us, h => ⟨[], us, rfl, RelL_nil.2 rfl, h⟩
  | _ :: r, _, us, h => by
    obtain ⟨v, vr, e, h1, h2⟩ := RelL_cons.1 h
    obtain ⟨u1, u2, e2, h3, h4⟩ := RelL_split h2
    exact ⟨v :: u1, u2, by rw [e, e2]; rfl, RelL_cons.2 ⟨v, u1, rfl, h1, h3⟩, h4⟩

theorem RelL_get : ∀ {cs : List AV} {us : List Value} (i : Nat) (a : AV), RelL w ok ι cs us → cs[i]? = some a → ∃ v, us[i]? = some v ∧ RelV w ok ι a v
  | [], _, i, _, _, h => by simp at h
  | c :: r, _, 0, a, h, hi => by
    obtain ⟨v, vr, e, h1, h2⟩ := RelL_cons.1 h
    simp only [List.getElem?_cons_zero, Option.some.injEq] at hi
    subst hi
    exact ⟨v, by rw [e]; rfl, h1⟩
  | c :: r, _, i + 1, a, h, hi => by
    obtain ⟨v, vr, e, h1, h2⟩ := RelL_cons.1 h
    obtain ⟨v', h3, h4⟩ := RelL_get i a h2 (by simpa using hi)
    exact ⟨v', by rw [e]; simpa using h3, h4⟩

theorem RelL_take {cs : List AV} {us : List Value} (h : RelL w ok ι cs us) (k : Nat) : RelL w ok ι (cs.take k) (us.take k) := by
  have h0 : RelL w ok ι (cs.take k ++ cs.drop k) us := by rw [List.take_append_drop]; exact h
  obtain ⟨u1, u2, e, h1, h2⟩ := RelL_split h0
  have hl := RelL_length h
  have hl1 := RelL_length h1
  have : us.take k = u1 := by
    rw [e]
    rcases Nat.le_total k cs.length with hk | hk
    · rw [List.take_left' (by rw [hl1, List.length_take]; omega)]
    · have h3 : u2 = [] := by
        have := RelL_length h2
        rw [List.length_drop] at this
        exact List.eq_nil_of_length_eq_zero (by omega)
      rw [h3, List.append_nil, List.take_of_length_le (by rw [hl1, List.length_take]; omega)]
  rw [this]
  exact h1

theorem RelL_drop {cs : List AV} {us : List Value} (h : RelL w ok ι cs us) (k : Nat) : RelL w ok ι (cs.drop k) (us.drop k) := by
  have h0 : RelL w ok ι (cs.take k ++ cs.drop k) us := by rw [List.take_append_drop]; exact h
  obtain ⟨u1, u2, e, h1, h2⟩ := RelL_split h0
  have hl1 := RelL_length h1
  have : us.drop k = u2 := by
    rw [e]
    rcases Nat.le_total k cs.length with hk | hk
    · rw [List.drop_left' (by rw [hl1, List.length_take]; omega)]
    · have h3 : u2 = [] := by
        have := RelL_length h2
        rw [List.length_drop] at this
        exact List.eq_nil_of_length_eq_zero (by omega)
      rw [h3, List.append_nil, List.drop_of_length_le (by rw [hl1, List.length_take]; omega)]
  rw [this]
  exact h2

/-- Data's cells are its cells as values. -/
theorem RelL_unpack : ∀ (t : Ty) (x : t.den) (us : List Value), Rz w ok t x us → RelL w ok ι (unpack t x) us
  | .int k, x, us, h => by
    have e : us = [.int k x] := h
    subst e
    exact RelL_cons.2 ⟨_, [], rfl, by simp only [RelV]; exact h, RelL_nil.2 rfl⟩
  | .bool, x, us, h => by
    have e : us = [.bool x] := h
    subst e
    exact RelL_cons.2 ⟨_, [], rfl, by simp only [RelV]; exact h, RelL_nil.2 rfl⟩
  | .str, x, us, h => by
    have e : us = [.string ⟨x.toArray⟩] := h
    subst e
    exact RelL_cons.2 ⟨_, [], rfl, by simp only [RelV]; exact h, RelL_nil.2 rfl⟩
  | .sl t, x, us, h => by
    obtain ⟨A, c, e, h1, h2⟩ := h
    subst e
    exact RelL_cons.2 ⟨_, [], rfl, by simp only [RelV]; exact ⟨A, c, rfl, h1, h2⟩, RelL_nil.2 rfl⟩
  | .pr a b, x, us, ⟨u1, u2, e, h1, h2⟩ => by
    subst e
    exact RelL_append (RelL_unpack a x.1 u1 h1) (RelL_unpack b x.2 u2 h2)
  | .un, x, us, h => by
    have e : us = [] := h
    subst e
    exact RelL_nil.2 rfl
  | .fk f, x, us, h => by
    have e : us = [.func (.func f) #[] #[]] := h
    subst e
    exact RelL_cons.2 ⟨_, [], rfl, by simp only [RelV]; exact ⟨[], rfl, RelL_nil.2 rfl⟩, RelL_nil.2 rfl⟩
end

theorem unpack_length : ∀ (t : Ty) (x : t.den), (unpack t x).length = t.size
  | .int _, _ => rfl
  | .bool, _ => rfl
  | .str, _ => rfl
  | .sl _, _ => rfl
  | .pr a b, x => by
    show (unpack a x.1 ++ unpack b x.2).length = _
    rw [List.length_append, unpack_length a, unpack_length b]; rfl
  | .un, _ => rfl
  | .fk _, _ => rfl

/-! ### Blocks -/
/-- A slice that begins at its block's head. -/
def zo : Value → Prop
  | .slice (some a) _ _ => a.off = 0 ∧ a.spot = none
  | _ => True

def RelB (w : World) (ok : Nat → Prop) (ι : Nat → Option Value) (k : Nat) : Blk → Prop
  | .row t e xs true => ∃ v cs, ι k = some v ∧ w.ownsRow 0 e t.size v xs.length cs ∧ RzL (Rz w ok t) xs cs
  | .row t _ xs false => ∃ v, ι k = some v ∧ zo v ∧ Rz w ok (.sl t) xs [v]
  | .box cs => ∃ g e us, ι k = some (.pointer (some ⟨g, 0, none⟩)) ∧ w.heap[g]? = some (.cells (List.toArray us) e (0, 0)) ∧ RelL w ok ι cs us
  | .it s pos => ∃ g, ι k = some (.pointer (some ⟨g, 0, none⟩)) ∧ w.heap[g]? = some (.stringIter ⟨s.toArray⟩ pos)
  | .dead => True

/-- The block of the world that block k owns alone. -/
def bk (ι : Nat → Option Value) (C : Nat → Blk) (k : Nat) : Option Nat :=
  match C k, ι k with
  | .row _ _ _ true, some v => v.ownBlock
  | .box _, some (.pointer (some a)) => some a.block
  | .it _ _, some (.pointer (some a)) => some a.block
  | _, _ => none

def owned (ι : Nat → Option Value) (C : Nat → Blk) (b : Nat) : Prop := ∃ k, bk ι C k = some b

/-- Blocks that data may lie in: no one's own, and not foreign (X). -/
def okb (X : Nat → Prop) (w : World) (ι : Nat → Option Value) (C : Nat → Blk) (b : Nat) : Prop := b < w.heap.size ∧ ¬ owned ι C b ∧ ¬ X b

/-- What of the world has been kept since w0. -/
structure Kept (keep : Nat → Prop) (w0 w : World) : Prop where
  os : w.os = w0.os
  tape : w.tape = w0.tape
  output : w.output = w0.output
  size : w0.heap.size ≤ w.heap.size
  block : ∀ b, keep b → b < w0.heap.size → w.heap[b]? = w0.heap[b]?

theorem Kept.refl (keep : Nat → Prop) (w : World) : Kept keep w w := ⟨rfl, rfl, rfl, Nat.le_refl _, fun _ _ _ => rfl⟩
theorem Kept.trans {keep : Nat → Prop} {a b c : World} (h : Kept keep a b) (k : Kept keep b c) : Kept keep a c :=
  ⟨k.os.trans h.os, k.tape.trans h.tape, k.output.trans h.output, Nat.le_trans h.size k.size, fun i hi hl => (k.block i hi (Nat.lt_of_lt_of_le hl h.size)).trans (h.block i hi hl)⟩
theorem Kept.weak {keep keep' : Nat → Prop} {a b : World} (h : Kept keep a b) (hk : ∀ i, keep' i → keep i) : Kept keep' a b :=
  ⟨h.os, h.tape, h.output, h.size, fun i hi hl => h.block i (hk i hi) hl⟩

structure HRel (X keep : Nat → Prop) (w0 : World) (ι : Nat → Option Value) (C : Nat → Blk) (w : World) : Prop where
  bl : ∀ k, RelB w (okb X w ι C) ι k (C k)
  inj : ∀ k k' b, bk ι C k = some b → bk ι C k' = some b → k = k'
  fr : Kept keep w0 w
  own : ∀ b, owned ι C b → ¬ keep b
  kl : ∀ b, keep b → b < w0.heap.size
  ox : ∀ b, owned ι C b → ¬ X b
  xl : ∀ b, X b → b < w0.heap.size

/-- From one state to a later one: what was told of values stays. -/
structure Ext (X : Nat → Prop) (ι : Nat → Option Value) (C : Nat → Blk) (w : World) (ι' : Nat → Option Value) (C' : Nat → Blk) (w' : World) : Prop where
  io : ∀ k v, ι k = some v → ι' k = some v
  ok : ∀ b, okb X w ι C b → okb X w' ι' C' b
  ce : ∀ b, okb X w ι C b → w'.heap[b]? = w.heap[b]?

theorem Ext.refl (X : Nat → Prop) (ι : Nat → Option Value) (C : Nat → Blk) (w : World) : Ext X ι C w ι C w := ⟨fun _ _ h => h, fun _ h => h, fun _ _ => rfl⟩
theorem Ext.trans {X : Nat → Prop} {ι ι' ι'' : Nat → Option Value} {C C' C'' : Nat → Blk} {w w' w'' : World} (h : Ext X ι C w ι' C' w') (k : Ext X ι' C' w' ι'' C'' w'') : Ext X ι C w ι'' C'' w'' :=
  ⟨fun j v e => k.io j v (h.io j v e), fun b e => k.ok b (h.ok b e), fun b e => (k.ce b (h.ok b e)).trans (h.ce b e)⟩

theorem Ext.cell {X : Nat → Prop} {ι ι' : Nat → Option Value} {C C' : Nat → Blk} {w w' : World} (h : Ext X ι C w ι' C' w') (g o : Nat) (v : Value) (hg : okb X w ι C g) (hc : w.cell? ⟨g, o, none⟩ = some v) : w'.cell? ⟨g, o, none⟩ = some v := by
  rw [← hc]
  exact World.cell?_of_block (h.ce g hg)

theorem Ext.val {X : Nat → Prop} {ι ι' : Nat → Option Value} {C C' : Nat → Blk} {w w' : World} (h : Ext X ι C w ι' C' w') {a : AV} {v : Value} (hv : RelV w (okb X w ι C) ι a v) : RelV w' (okb X w' ι' C') ι' a v :=
  RelV_mono h.cell h.ok h.io a v hv

theorem Ext.vals {X : Nat → Prop} {ι ι' : Nat → Option Value} {C C' : Nat → Blk} {w w' : World} (h : Ext X ι C w ι' C' w') {cs : List AV} {us : List Value} (hv : RelL w (okb X w ι C) ι cs us) : RelL w' (okb X w' ι' C') ι' cs us :=
  RelL_mono h.cell h.ok h.io cs us hv

theorem Ext.data {X : Nat → Prop} {ι ι' : Nat → Option Value} {C C' : Nat → Blk} {w w' : World} (h : Ext X ι C w ι' C' w') {t : Ty} {x : t.den} {us : List Value} (hv : Rz w (okb X w ι C) t x us) : Rz w' (okb X w' ι' C') t x us :=
  Rz_mono h.cell h.ok t x us hv

/-- A block keeps its reading where its own block of the world is as it was. -/
theorem RelB_keep {X : Nat → Prop} {ι ι' : Nat → Option Value} {C C' : Nat → Blk} {w w' : World} (h : Ext X ι C w ι' C' w') (k : Nat) (hB : RelB w (okb X w ι C) ι k (C k)) (hC : C' k = C k)
    (hw : ∀ b, bk ι C k = some b → w'.heap[b]? = w.heap[b]?) : RelB w' (okb X w' ι' C') ι' k (C' k) := by
  rw [hC]
  unfold bk at hw
  cases hk : C k with
  | row t e xs rw =>
    rw [hk] at hB hw
    cases rw with
    | true =>
      obtain ⟨v, cs, h1, h2, h3⟩ := hB
      refine ⟨v, cs, h.io _ _ h1, ⟨h2.1, ?_⟩, RzL_mono (Rz_mono h.cell h.ok t) h3⟩
      rcases h2.2 with h4 | ⟨g, cap, cur, hv, h5, h6, h7⟩
      · exact .inl h4
      · exact .inr ⟨g, cap, cur, hv, h5, by rw [hw g (by rw [h1, hv]; rfl)]; exact h6, h7⟩
    | false =>
      obtain ⟨v, h1, h0, h2⟩ := hB
      exact ⟨v, h.io _ _ h1, h0, h.data h2⟩
  | box cs =>
    rw [hk] at hB hw
    obtain ⟨g, e, us, h1, h2, h3⟩ := hB
    exact ⟨g, e, us, h.io _ _ h1, by rw [hw g (by rw [h1])]; exact h2, h.vals h3⟩
  | it s pos =>
    rw [hk] at hB hw
    obtain ⟨g, h1, h2⟩ := hB
    exact ⟨g, h.io _ _ h1, by rw [hw g (by rw [h1])]; exact h2⟩
  | dead => trivial

/-- A block of one's own lies in the world. -/
theorem HRel.lt {X keep : Nat → Prop} {w0 w : World} {ι : Nat → Option Value} {C : Nat → Blk} (h : HRel X keep w0 ι C w) {b : Nat} (hb : owned ι C b) : b < w.heap.size := by
  obtain ⟨k, hk⟩ := hb
  have hB := h.bl k
  unfold bk at hk
  cases hC : C k with
  | row t e xs rw =>
    rw [hC] at hB hk
    cases rw with
    | true =>
      obtain ⟨v, cs, h1, h2, h3⟩ := hB
      rw [h1] at hk
      exact (h2.lt b hk).2
    | false => cases hι : ι k <;> rw [hι] at hk <;> cases hk
  | box cs =>
    rw [hC] at hB hk
    obtain ⟨g, e, us, h1, h2, h3⟩ := hB
    rw [h1] at hk
    injection hk with hk
    have hk : g = b := hk
    subst hk
    exact (Array.getElem?_eq_some_iff.1 h2).1
  | it s pos =>
    rw [hC] at hB hk
    obtain ⟨g, h1, h2⟩ := hB
    rw [h1] at hk
    injection hk with hk
    have hk : g = b := hk
    subst hk
    exact (Array.getElem?_eq_some_iff.1 h2).1
  | dead => rw [hC] at hk; cases hι : ι k <;> rw [hι] at hk <;> cases hk

end Go.Proofs.Rf
