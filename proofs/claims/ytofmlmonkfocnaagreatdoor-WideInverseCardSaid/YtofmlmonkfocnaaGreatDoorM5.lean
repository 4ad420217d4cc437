/- Texts put together: W1, W2, W3, W4, W5, W6, W7, W8, W9, W10, W11, K01, Z01, W12, W13, W14, W15, W16, W17, W18, W19, W20, Gg, Gh, W21, Gx01, Dr01. -/
import Derived.Test.YtofmlmonkfocnaaGreatDoorM4
import Derived.Lib.ItoaNum
import Derived.Laws.RangeAny
import Derived.Laws.RangeString
import Derived.Below
import Derived.WalkKit
import Derived.ProofKit
import Derived.OpenShut
import Derived.ChangeOld
import Derived.ChangeArms
import Derived.Carry
import Derived.Test.YtofmlmonkfocnaaGreatDoorRows
import Derived.LaidMore
import Derived.LaidSub
import Derived.Lib.LaidU8
import Derived.Lib.LaidTab
import Derived.Stop.Joined
import Derived.Lay
/- Limbs of base ten and of base ten to the ninth. -/
namespace Go.Proofs.Rf
open Go

/-- Loops: what holds at the head, and becomes smaller. -/
theorem limL_ind {A B : Type} {f : A → Option (A ⊕ B)} (μ : A → Nat) (I : A → Prop) (Q : B → Prop) (h : ∀ x, I x → (∃ y, f x = some (.inl y) ∧ I y ∧ μ y < μ x) ∨ ∃ z, f x = some (.inr z) ∧ Q z) : ∀ x, I x → ∃ z, limL f x = some z ∧ Q z := by
  have key : ∀ n x, μ x = n → I x → ∃ z, limL f x = some z ∧ Q z := by
    intro n
    induction n using Nat.strongRecOn with
    | _ n ih =>
      intro x hx hI
      rw [limL_eq]
      rcases h x hI with ⟨y, h1, h2, h3⟩ | ⟨z, h1, h2⟩
      · rw [h1]
        exact ih (μ y) (by omega) y rfl h2
      · rw [h1]
        exact ⟨z, rfl, h2⟩
  exact fun x hI => key _ x rfl hI

theorem w64 {n : Int} (h0 : 0 ≤ n) (h1 : n < 18446744073709551616) : IntKind.u64.wrap n = n := by
  simp [IntKind.wrap, IntKind.bits, IntKind.signed]
  omega

theorem w32 {n : Int} (h0 : 0 ≤ n) (h1 : n < 4294967296) : IntKind.u32.wrap n = n := by
  simp [IntKind.wrap, IntKind.bits, IntKind.signed]
  omega

theorem w8 {n : Int} (h0 : 0 ≤ n) (h1 : n < 256) : IntKind.u8.wrap n = n := by
  simp [IntKind.wrap, IntKind.bits, IntKind.signed]
  omega

theorem wi {n : Int} (h0 : -9223372036854775808 ≤ n) (h1 : n < 9223372036854775808) : IntKind.i64.wrap n = n := by
  simp [IntKind.wrap, IntKind.bits, IntKind.signed]
  omega

theorem getD_big {a : List Int} {i : Nat} (h : a.length ≤ i) : a.getD i 0 = 0 := by
  rw [List.getD_eq_getElem?_getD, List.getElem?_eq_none h]; rfl

theorem drop_at {l : List Int} {i : Nat} (h : i < l.length) : l.drop i = l.getD i 0 :: l.drop (i + 1) := by
  rw [List.drop_eq_getElem_cons h, List.getD_eq_getElem?_getD, List.getElem?_eq_getElem h]
  rfl

theorem getD_set {r : List Int} {i k : Nat} {v : Int} : (r.set i v).getD k 0 = if i = k ∧ i < r.length then v else r.getD k 0 := by
  simp only [List.getD_eq_getElem?_getD, List.getElem?_set]
  split
  · rename_i h
    subst h
    split
    · rename_i h; simp [h]
    · rename_i h; simp [h]
  · rename_i h; simp [h]

def bor (d : Int) : Int := if d < 0 then 1 else 0

theorem bor_range (d : Int) : 0 ≤ bor d ∧ bor d ≤ 1 := by
  unfold bor
  split <;> omega

def sgn (neg : Bool) (n : Nat) : Int := if neg = true then -(n : Int) else (n : Int)

theorem len_pos_int {l : List Int} : decide ((l.length : Int) > 0) = decide (0 < l.length) := by
  rw [decide_eq_decide]
  omega

theorem ofInt_toNat (n x : Nat) (h : x < 2 ^ n) : (BitVec.ofInt n (x : Int)).toNat = x := by
  rw [BitVec.ofInt_natCast, BitVec.toNat_ofNat, Nat.mod_eq_of_lt h]

theorem and64 {x y : Nat} (hx : x < 18446744073709551616) (hy : y < 18446744073709551616) : bitop .and .u64 (x : Int) (y : Int) = ((x &&& y : Nat) : Int) := by
  show IntKind.u64.wrap ((((BitVec.ofInt 64 (x : Int)) &&& (BitVec.ofInt 64 (y : Int))).toNat : Nat) : Int) = _
  rw [BitVec.toNat_and, ofInt_toNat 64 x hx, ofInt_toNat 64 y hy]
  have := @Nat.and_le_left x y
  exact w64 (by omega) (by omega)

theorem fdiv_pow (x : Nat) (k : Nat) : Int.fdiv (x : Int) (2 ^ k) = ((x / 2 ^ k : Nat) : Int) := by
  have h : (2 : Int) ^ k = ((2 ^ k : Nat) : Int) := by simp
  rw [h, Int.fdiv_eq_ediv_of_nonneg _ (Int.natCast_nonneg _)]
  simp

theorem wu64 (n : Int) : IntKind.u64.wrap n = n % 18446744073709551616 := rfl

theorem w64nat {m : Nat} (h : m < 2 ^ 64) : IntKind.u64.wrap (m : Int) = (m : Int) := w64 (by omega) (by omega)

theorem pow64 {w : Nat} (h : w < 64) : IntKind.u64.wrap (1 * 2 ^ min (Int.toNat (w : Int)) 64) = ((2 ^ w : Nat) : Int) := by
  have h1 : 2 ^ w < 2 ^ 64 := Nat.pow_lt_pow_right (by decide) h
  have h2 : (1 : Int) * 2 ^ w = ((2 ^ w : Nat) : Int) := by simp
  rw [Int.toNat_natCast, Nat.min_eq_left (by omega), h2, w64nat h1]

namespace D
def val : List Int → Int
  | [] => 0
  | x :: r => x + 10 * val r

def Wf (l : List Int) : Prop := ∀ x ∈ l, 0 ≤ x ∧ x < 10

theorem Wf.nil : Wf [] := fun _ h => by cases h

theorem Wf.cons {x : Int} {r : List Int} (h0 : 0 ≤ x) (h1 : x < 10) (h : Wf r) : Wf (x :: r) := by
  intro y hy
  rcases List.mem_cons.1 hy with rfl | hy
  · exact ⟨h0, h1⟩
  · exact h y hy

theorem Wf.head {x : Int} {r : List Int} (h : Wf (x :: r)) : 0 ≤ x ∧ x < 10 := h x (List.mem_cons_self ..)

theorem Wf.tail {x : Int} {r : List Int} (h : Wf (x :: r)) : Wf r := fun y hy => h y (List.mem_cons_of_mem _ hy)

theorem Wf.append {a b : List Int} (h : Wf a) (k : Wf b) : Wf (a ++ b) := fun x hx => (List.mem_append.1 hx).elim (h x) (k x)

theorem Wf.take {a : List Int} (h : Wf a) (n : Nat) : Wf (a.take n) := fun x hx => h x (List.mem_of_mem_take hx)

theorem Wf.getD {a : List Int} (h : Wf a) (i : Nat) : 0 ≤ a.getD i 0 ∧ a.getD i 0 < 10 := by
  rw [List.getD_eq_getElem?_getD]
  cases hi : a[i]? with
  | none => simp
  | some x => exact h x (List.mem_of_getElem? hi)

theorem Wf.set {a : List Int} (h : Wf a) (i : Nat) {x : Int} (h0 : 0 ≤ x) (h1 : x < 10) : Wf (a.set i x) := by
  intro y hy
  rcases List.mem_or_eq_of_mem_set hy with hy | rfl
  · exact h y hy
  · exact ⟨h0, h1⟩

theorem Wf.replicate (n : Nat) : Wf (List.replicate n 0) := by
  intro x hx
  rw [(List.mem_replicate.1 hx).2]
  decide

theorem val_nonneg : ∀ {l : List Int}, Wf l → 0 ≤ val l
  | [], _ => Int.le_refl 0
  | x :: r, h => by
    have h1 := val_nonneg h.tail
    have h2 := h.head
    simp only [val]
    omega

theorem val_append (a b : List Int) : val (a ++ b) = val a + 10 ^ a.length * val b := by
  induction a with
  | nil => simp [val]
  | cons x r ih =>
    simp only [List.cons_append, val, ih, List.length_cons, Int.pow_succ]
    rw [Int.mul_add, Int.add_assoc]
    congr 2
    rw [Int.mul_comm (10 ^ r.length) 10, Int.mul_assoc]

theorem val_lt {l : List Int} (h : Wf l) : val l < 10 ^ l.length := by
  induction l with
  | nil => simp [val]
  | cons x r ih =>
    have h1 := ih h.tail
    have h2 := h.head
    simp only [val, List.length_cons, Int.pow_succ]
    omega

theorem val_replicate (n : Nat) : val (List.replicate n 0) = 0 := by
  induction n with
  | zero => rfl
  | succ n ih => simp [List.replicate_succ, val, ih]

/-- The canonical list. -/
def lim (n : Nat) : List Int := if h : n = 0 then [] else ((n % 10 : Nat) : Int) :: lim (n / 10)
decreasing_by exact Nat.div_lt_self (Nat.pos_of_ne_zero h) (by decide)

theorem lim_zero : lim 0 = [] := by rw [lim]; simp

theorem lim_pos {n : Nat} (h : n ≠ 0) : lim n = ((n % 10 : Nat) : Int) :: lim (n / 10) := by rw [lim, dif_neg h]

theorem val_lim (n : Nat) : val (lim n) = n := by
  induction n using Nat.strongRecOn with
  | _ n ih =>
    by_cases h : n = 0
    · subst h; rw [lim_zero]; rfl
    · rw [lim_pos h, val, ih _ (Nat.div_lt_self (Nat.pos_of_ne_zero h) (by decide))]
      omega

theorem Wf_lim (n : Nat) : Wf (lim n) := by
  induction n using Nat.strongRecOn with
  | _ n ih =>
    by_cases h : n = 0
    · subst h; rw [lim_zero]; exact Wf.nil
    · rw [lim_pos h]
      exact Wf.cons (by omega) (by omega) (ih _ (Nat.div_lt_self (Nat.pos_of_ne_zero h) (by decide)))

/-- No zero at the end. -/
def Nm : List Int → Prop
  | [] => True
  | [x] => x ≠ 0
  | _ :: r => Nm r

theorem Nm.tail {x y : Int} {r : List Int} (h : Nm (x :: y :: r)) : Nm (y :: r) := h

theorem val_pos : ∀ {l : List Int}, Wf l → Nm l → l ≠ [] → 0 < val l
  | [], _, _, h => absurd rfl h
  | [x], hw, hn, _ => by
    have := hw.head
    have hn : x ≠ 0 := hn
    simp only [val]
    omega
  | x :: y :: r, hw, hn, _ => by
    have h1 := val_pos hw.tail hn.tail (by simp)
    have h2 := hw.head
    rw [val]
    omega

theorem lim_val : ∀ {l : List Int}, Wf l → Nm l → lim (val l).toNat = l
  | [], _, _ => lim_zero
  | x :: r, hw, hn => by
    have hp := val_pos hw hn (by simp)
    have h2 := hw.head
    have h3 := val_nonneg hw.tail
    rw [lim_pos (by omega)]
    have e1 : (((val (x :: r)).toNat % 10 : Nat) : Int) = x := by
      simp only [val] at hp ⊢
      omega
    have e2 : (val (x :: r)).toNat / 10 = (val r).toNat := by
      simp only [val] at hp ⊢
      omega
    rw [e1, e2]
    congr 1
    cases r with
    | nil => exact lim_zero
    | cons y r => exact lim_val hw.tail hn.tail

theorem Nm_lim (n : Nat) : Nm (lim n) := by
  induction n using Nat.strongRecOn with
  | _ n ih =>
    by_cases h : n = 0
    · subst h; rw [lim_zero]; trivial
    · rw [lim_pos h]
      have hlt := Nat.div_lt_self (Nat.pos_of_ne_zero h) (show 1 < 10 by decide)
      by_cases h2 : n / 10 = 0
      · rw [h2, lim_zero]
        show ((n % 10 : Nat) : Int) ≠ 0
        omega
      · have := ih _ hlt
        rw [lim_pos h2] at this ⊢
        exact this

/-- The list without zeros at the end is the canonical one. -/
theorem take_lim {l : List Int} (hw : Wf l) {n : Nat} (hn : n ≤ l.length) (hz : ∀ i, n ≤ i → i < l.length → l.getD i 0 = 0) (hl : 0 < n → l.getD (n - 1) 0 ≠ 0) : l.take n = lim (val l).toNat := by
  have hz2 : ∀ (r : List Int), (∀ i, i < r.length → r.getD i 0 = 0) → val r = 0 := by
    intro r
    induction r with
    | nil => intro _; rfl
    | cons x r ih =>
      intro h
      have h0 := h 0 (by simp)
      have h1 := ih fun i hi => by have := h (i + 1) (by simpa using hi); simpa using this
      simp only [List.getD_cons_zero] at h0
      simp [val, h0, h1]
  have hv : val l = val (l.take n) := by
    conv => lhs; rw [← List.take_append_drop n l]
    rw [val_append, hz2 (l.drop n) fun i hi => ?_]
    · simp
    · have := hz (n + i) (by omega) (by simp at hi; omega)
      simpa [List.getD_eq_getElem?_getD] using this
  have hNm : ∀ (r : List Int), (r ≠ [] → r.getD (r.length - 1) 0 ≠ 0) → Nm r := by
    intro r
    induction r with
    | nil => intro _; trivial
    | cons x r ih =>
      intro h
      cases r with
      | nil =>
        have := h (by simp)
        show x ≠ 0
        simpa using this
      | cons y r =>
        show Nm (y :: r)
        refine ih fun _ => ?_
        have := h (by simp)
        simpa using this
  have hn2 : Nm (l.take n) := by
    refine hNm _ fun hne => ?_
    have hlen : (l.take n).length = n := by simp; omega
    have hnp : 0 < n := by
      rcases Nat.eq_zero_or_pos n with e | e
      · subst e; exact absurd (by simp) hne
      · exact e
    rw [hlen]
    have := hl hnp
    rw [List.getD_eq_getElem?_getD] at this ⊢
    rw [List.getElem?_take_of_lt (by omega)]
    exact this
  rw [hv]
  exact (lim_val (hw.take n) hn2).symm

theorem val_take_succ (a : List Int) (i : Nat) : val (a.take (i + 1)) = val (a.take i) + 10 ^ i * a.getD i 0 := by
  rcases Nat.lt_or_ge i a.length with h | h
  · rw [List.take_succ_eq_append_getElem h, val_append, List.getD_eq_getElem?_getD, List.getElem?_eq_getElem h]
    simp [val, List.length_take, Nat.min_eq_left (Nat.le_of_lt h)]
  · rw [List.take_of_length_le (by omega), List.take_of_length_le h, getD_big h]
    simp

theorem val_set {r : List Int} {i : Nat} (h : i < r.length) (v : Int) : val (r.set i v) = val r + 10 ^ i * (v - r.getD i 0) := by
  induction r generalizing i with
  | nil => simp at h
  | cons x r ih =>
    cases i with
    | zero => simp [val]; omega
    | succ i =>
      have := ih (i := i) (by simpa using h)
      simp only [List.set_cons_succ, val, this, List.getD_cons_succ, Int.pow_succ]
      grind

theorem powB (i : Nat) : (10 : Int) ^ (i + 1) = 10 ^ i * 10 := Int.pow_succ ..

theorem powB_pos (i : Nat) : (0 : Int) < 10 ^ i := Int.pow_pos (by decide)

theorem val_take_all {a : List Int} {i : Nat} (h : a.length ≤ i) : val (a.take i) = val a := by rw [List.take_of_length_le h]

/-- One limb of a product. -/
theorem mul_limb {P c x y r s V : Int} (hs : s = c + x * y + r) : V + P * (s % 10 - r) + P * 10 * (s / 10) = V + P * c + P * (x * y) := by
  have h : s % 10 + 10 * (s / 10) = s := by omega
  grind

theorem mul_bound {c x y r : Int} (hc : 0 ≤ c) (hc' : c < 10) (hx : 0 ≤ x) (hx' : x < 10) (hy : 0 ≤ y) (hy' : y < 10) (hr : 0 ≤ r) (hr' : r < 10) :
    0 ≤ x * y ∧ x * y ≤ 81 ∧ 0 ≤ c + x * y + r ∧ c + x * y + r < 100 := by
  have h1 := Int.mul_le_mul (show x ≤ 9 by omega) (show y ≤ 9 by omega) hy (by decide)
  have h2 := Int.mul_nonneg hx hy
  have h3 : (9 : Int) * 9 = 81 := by decide
  rw [h3] at h1
  omega

/-- What the inner loop does: x times b is added from place i on. -/
structure InnerOK (b r : List Int) (i : Nat) (x : Int) (k : Nat) (c : Int) (r' : List Int) : Prop where
  len : r'.length = r.length
  wf : Wf r'
  c0 : 0 ≤ c
  c1 : c < 10
  vl : val r' + 10 ^ (i + k) * c = val r + 10 ^ i * (x * val (b.take k))
  hi : ∀ j, i + k ≤ j → r'.getD j 0 = r.getD j 0

theorem InnerOK.zero {b r : List Int} {i : Nat} {x : Int} (hw : Wf r) : InnerOK b r i x 0 0 r :=
  ⟨rfl, hw, by omega, by omega, by simp [val], fun _ _ => rfl⟩

theorem InnerOK.step {b r : List Int} {i : Nat} {x : Int} {k : Nat} {c : Int} {r' : List Int} (h : InnerOK b r i x k c r') (wb : Wf b) (hx : 0 ≤ x) (hx1 : x < 10) (hk : i + k < r.length) :
    InnerOK b r i x (k + 1) ((c + x * b.getD k 0 + r'.getD (i + k) 0) / 10) (r'.set (i + k) ((c + x * b.getD k 0 + r'.getD (i + k) 0) % 10)) := by
  have xb := wb.getD k
  have xr := h.wf.getD (i + k)
  have hb := mul_bound h.c0 h.c1 hx hx1 xb.1 xb.2 xr.1 xr.2
  have hl := h.len
  refine ⟨by simp [hl], h.wf.set _ (by omega) (by omega), by omega, by omega, ?_, fun j hj => ?_⟩
  · rw [val_set (by omega), val_take_succ, show i + (k + 1) = (i + k) + 1 by omega, powB]
    have e1 := mul_limb (P := 10 ^ (i + k)) (V := val r') (c := c) (x := x) (y := b.getD k 0) (r := r'.getD (i + k) 0) (s := c + x * b.getD k 0 + r'.getD (i + k) 0) rfl
    have e2 : (10 : Int) ^ (i + k) = 10 ^ i * 10 ^ k := Int.pow_add ..
    have e3 := h.vl
    grind
  · rw [getD_set, if_neg (by omega)]
    exact h.hi j (by omega)

/-- The outer loop: a's first i limbs times b. -/
structure OuterOK (a b : List Int) (i : Nat) (r : List Int) : Prop where
  len : r.length = a.length + b.length
  wf : Wf r
  vl : val r = val (a.take i) * val b
  hi : ∀ j, i + b.length ≤ j → r.getD j 0 = 0

theorem OuterOK.zero (a b : List Int) : OuterOK a b 0 (List.replicate (a.length + b.length) 0) :=
  ⟨by simp, Wf.replicate _, by simp [val, val_replicate], fun j _ => by
    rw [List.getD_eq_getElem?_getD, List.getElem?_replicate]
    split <;> rfl⟩

theorem OuterOK.step {a b : List Int} {i : Nat} {r r' : List Int} {c : Int} (h : OuterOK a b i r) (hI : InnerOK b r i (a.getD i 0) b.length c r') (hi : i < a.length) : OuterOK a b (i + 1) (r'.set (i + b.length) c) := by
  have hl := h.len
  have hl' := hI.len
  have h0 : r'.getD (i + b.length) 0 = 0 := by rw [hI.hi _ (Nat.le_refl _), h.hi _ (Nat.le_refl _)]
  refine ⟨by simp [hl', hl], hI.wf.set _ hI.c0 hI.c1, ?_, fun j hj => ?_⟩
  · rw [val_set (by omega), h0, val_take_succ]
    have e1 := hI.vl
    have e2 := h.vl
    rw [val_take_all (Nat.le_refl _)] at e1
    grind
  · rw [getD_set, if_neg (by omega), hI.hi _ (by omega), h.hi _ (by omega)]

theorem lim_eq_nil {n : Nat} : lim n = [] ↔ n = 0 := by
  constructor
  · intro h
    have := val_lim n
    rw [h] at this
    simp only [val] at this
    omega
  · rintro rfl
    exact lim_zero

theorem lim_inj {a b : Nat} (h : lim a = lim b) : a = b := by
  have h1 := val_lim a
  have h2 := val_lim b
  rw [h] at h1
  omega

theorem Nm.last : ∀ {l : List Int}, Nm l → 0 < l.length → l.getD (l.length - 1) 0 ≠ 0
  | [x], h, _ => h
  | x :: y :: r, h, _ => by
    have := Nm.last (l := y :: r) h (by simp)
    simpa using this

theorem castB (m : Nat) : ((10 ^ m : Nat) : Int) = (10 : Int) ^ m := Int.natCast_pow 10 m

theorem lim_length_of {n k : Nat} (h : n < 10 ^ k) : (lim n).length ≤ k := by
  by_cases h0 : n = 0
  · subst h0; rw [lim_zero]; simp
  · have hp : 0 < (lim n).length := by
      rcases Nat.eq_zero_or_pos (lim n).length with q | q
      · exact (h0 (lim_eq_nil.1 (List.eq_nil_of_length_eq_zero q))).elim
      · exact q
    obtain ⟨m, hm⟩ : ∃ m, (lim n).length = m + 1 := ⟨(lim n).length - 1, by omega⟩
    have h1 := (Nm_lim n).last hp
    have h2 := val_take_succ (lim n) m
    rw [← hm, List.take_length, val_lim] at h2
    have h3 := val_nonneg ((Wf_lim n).take m)
    have h4 := (Wf_lim n).getD m
    rw [hm, Nat.add_sub_cancel] at h1
    have h5 : (10 : Int) ^ m ≤ n := by
      have h6 : (10 : Int) ^ m * 1 ≤ 10 ^ m * (lim n).getD m 0 := Int.mul_le_mul_of_nonneg_left (by omega) (Int.le_of_lt (powB_pos m))
      omega
    have h7 : 10 ^ m ≤ n := by rw [← castB] at h5; exact Int.ofNat_le.1 h5
    have h8 : 10 ^ m < 10 ^ k := by omega
    have := (Nat.pow_lt_pow_iff_right (by decide : 1 < 10)).1 h8
    omega

theorem lim_lt (n : Nat) : n < 10 ^ (lim n).length := by
  have := val_lt (Wf_lim n)
  rw [val_lim, ← castB] at this
  exact Int.ofNat_lt.1 this

theorem lim_length_mono {a b : Nat} (h : a ≤ b) : (lim a).length ≤ (lim b).length := lim_length_of (Nat.lt_of_le_of_lt h (lim_lt b))

/-- An integer as the texts hold it. -/
def zl (z : Int) : Bool × List Int := (decide (z < 0), lim z.natAbs)

theorem val_split (l : List Int) (k : Nat) (h : k ≤ l.length) : val l = val (l.take k) + 10 ^ k * val (l.drop k) := by
  have := val_append (l.take k) (l.drop k)
  rw [List.take_append_drop, List.length_take, Nat.min_eq_left h] at this
  exact this

theorem val_take_lt {l : List Int} (hw : Wf l) (k : Nat) (h : k ≤ l.length) : val (l.take k) < 10 ^ k := by
  have := val_lt (hw.take k)
  rw [List.length_take, Nat.min_eq_left h] at this
  exact this

/-- Equal above a place, less there: less. -/
theorem lt_at {a b : List Int} (wa : Wf a) (wb : Wf b) {k : Nat} (ha : k < a.length) (hb : k < b.length) (he : a.drop (k + 1) = b.drop (k + 1)) (hlt : a.getD k 0 < b.getD k 0) : val a < val b := by
  rw [val_split a k (by omega), val_split b k (by omega), drop_at ha, drop_at hb, he]
  simp only [val]
  have h1 := val_take_lt wa k (by omega)
  have h2 := val_nonneg (wb.take k)
  have h3 := powB_pos k
  generalize (10 : Int) ^ k = P at *
  generalize val (b.drop (k + 1)) = V at *
  generalize a.getD k 0 = A at *
  generalize b.getD k 0 = C at *
  have h4 : P * (A + 10 * V) + P = P * (A + 1 + 10 * V) := by grind
  have h5 : P * (A + 1 + 10 * V) ≤ P * (C + 10 * V) := Int.mul_le_mul_of_nonneg_left (by omega) (by omega)
  omega

theorem lim_shorter {a b : Nat} (h : (lim a).length < (lim b).length) : a < b := by
  rcases Nat.lt_or_ge a b with q | q
  · exact q
  · have := lim_length_mono q
    omega

theorem sub_limb {P c x y V : Int} (t : Int) (h : t = if x - y - c < 0 then 1 else 0) : V + P * ((x - y - c) % 10) - P * 10 * t = V + P * x - P * y - P * c ∨ ¬ (0 ≤ x ∧ x < 10 ∧ 0 ≤ y ∧ y < 10 ∧ 0 ≤ c ∧ c ≤ 1) := by
  by_cases q : 0 ≤ x ∧ x < 10 ∧ 0 ≤ y ∧ y < 10 ∧ 0 ≤ c ∧ c ≤ 1
  · left
    have h2 : (x - y - c) % 10 = x - y - c + 10 * t := by
      rw [h]
      split <;> omega
    rw [h2]
    grind
  · exact .inr q

/-- One round of a difference: what its invariant says. -/
structure SubOK (a b : List Int) (i : Nat) (r : List Int) (c : Int) : Prop where
  wf : Wf r
  c0 : 0 ≤ c
  c1 : c ≤ 1
  v : val (r.take i) - 10 ^ i * c = val (a.take i) - val (b.take i)

theorem SubOK.step {a b r r' : List Int} {i : Nat} {c : Int} (h : SubOK a b i r c) (wa : Wf a) (wb : Wf b) (hr : r'.take i = r.take i) (hw : Wf r') (hd : r'.getD i 0 = (a.getD i 0 - b.getD i 0 - c) % 10) : SubOK a b (i + 1) r' (bor (a.getD i 0 - b.getD i 0 - c)) := by
  refine ⟨hw, (bor_range _).1, (bor_range _).2, ?_⟩
  rw [val_take_succ, val_take_succ, val_take_succ, powB, hr, hd]
  have h1 := wa.getD i
  have h2 := wb.getD i
  have h3 := h.v
  have h4 := sub_limb (P := 10 ^ i) (c := c) (x := a.getD i 0) (y := b.getD i 0) (V := val (r.take i)) (bor (a.getD i 0 - b.getD i 0 - c)) rfl
  rcases h4 with h4 | h4
  · grind
  · exact (h4 ⟨h1.1, h1.2, h2.1, h2.2, h.c0, h.c1⟩).elim

theorem SubOK.done {a b r : List Int} {c : Int} (h : SubOK a b a.length r c) (hr : r.length = a.length) (hb : b.length ≤ a.length) (hle : val b ≤ val a) : val r = val a - val b := by
  have h1 := h.v
  rw [val_take_all (by omega), val_take_all (Nat.le_refl _), val_take_all hb] at h1
  have h2 := val_lt h.wf
  rw [hr] at h2
  have h3 := h.c0
  have h4 := h.c1
  have h5 := powB_pos a.length
  generalize (10 : Int) ^ a.length = P at *
  rcases (show c = 0 ∨ c = 1 by omega) with rfl | rfl
  · omega
  · omega

theorem sgn_natAbs (neg : Bool) (n : Nat) : (sgn neg n).natAbs = n := by
  unfold sgn
  cases neg <;> simp

theorem zl_sgn (neg : Bool) (n : Nat) : zl (sgn neg n) = (neg && decide (0 < (lim n).length), lim n) := by
  unfold zl
  rw [sgn_natAbs]
  congr 1
  unfold sgn
  cases neg
  · simp
  · simp only [if_true, Bool.true_and]
    rw [decide_eq_decide]
    constructor
    · intro h
      rcases Nat.eq_zero_or_pos (lim n).length with q | q
      · have := lim_eq_nil.1 (List.eq_nil_of_length_eq_zero q)
        omega
      · exact q
    · intro h
      have : n ≠ 0 := by
        rintro rfl
        rw [lim_zero] at h
        simp at h
      omega

theorem sgn_zl (z : Int) : sgn (decide (z < 0)) z.natAbs = z := by
  unfold sgn
  by_cases h : z < 0
  · rw [decide_eq_true h, if_pos rfl]; omega
  · rw [decide_eq_false h, if_neg (by decide)]; omega

/-- So long at most. -/
def Sz (k : Nat) (z : Int) : Prop := (lim z.natAbs).length ≤ k

theorem lim_add_length (a b : Nat) : (lim (a + b)).length ≤ max (lim a).length (lim b).length + 1 := by
  refine lim_length_of ?_
  have h1 := lim_lt a
  have h2 := lim_lt b
  have h3 : 10 ^ (lim a).length ≤ 10 ^ max (lim a).length (lim b).length := Nat.pow_le_pow_right (by decide) (Nat.le_max_left ..)
  have h4 : 10 ^ (lim b).length ≤ 10 ^ max (lim a).length (lim b).length := Nat.pow_le_pow_right (by decide) (Nat.le_max_right ..)
  rw [Nat.pow_succ]
  omega

theorem Sz.add {j k : Nat} {x y : Int} (hx : Sz j x) (hy : Sz k y) : Sz (max j k + 1) (x + y) := by
  have h1 := lim_add_length x.natAbs y.natAbs
  have h2 := lim_length_mono (Int.natAbs_add_le x y)
  unfold Sz at *
  omega

theorem lim_mul_length (a b : Nat) : (lim (a * b)).length ≤ (lim a).length + (lim b).length := by
  refine lim_length_of ?_
  rw [Nat.pow_add]
  have h1 := lim_lt a
  have h2 := lim_lt b
  by_cases hb : b = 0
  · subst hb
    rw [Nat.mul_zero]
    exact Nat.mul_pos (Nat.pow_pos (by decide)) (Nat.pow_pos (by decide))
  · exact Nat.mul_lt_mul_of_lt_of_le h1 (Nat.le_of_lt h2) (Nat.lt_of_le_of_lt (Nat.zero_le _) h2)

theorem Sz.mul {j k : Nat} {x y : Int} (hx : Sz j x) (hy : Sz k y) : Sz (j + k) (x * y) := by
  unfold Sz at *
  rw [Int.natAbs_mul]
  have := lim_mul_length x.natAbs y.natAbs
  omega

theorem Sz.neg {k : Nat} {x : Int} (hx : Sz k x) : Sz k (-x) := by
  unfold Sz at *
  rw [Int.natAbs_neg]
  exact hx

theorem Sz.mono {j k : Nat} {x : Int} (h : Sz j x) (hk : j ≤ k) : Sz k x := Nat.le_trans h hk

theorem Sz.le {k : Nat} {x y : Int} (h : Sz k y) (hx : x.natAbs ≤ y.natAbs) : Sz k x := Nat.le_trans (lim_length_mono hx) h
end D

namespace M
def val : List Int → Int
  | [] => 0
  | x :: r => x + 1000000000 * val r

def Wf (l : List Int) : Prop := ∀ x ∈ l, 0 ≤ x ∧ x < 1000000000

theorem Wf.nil : Wf [] := fun _ h => by cases h

theorem Wf.cons {x : Int} {r : List Int} (h0 : 0 ≤ x) (h1 : x < 1000000000) (h : Wf r) : Wf (x :: r) := by
  intro y hy
  rcases List.mem_cons.1 hy with rfl | hy
  · exact ⟨h0, h1⟩
  · exact h y hy

theorem Wf.head {x : Int} {r : List Int} (h : Wf (x :: r)) : 0 ≤ x ∧ x < 1000000000 := h x (List.mem_cons_self ..)

theorem Wf.tail {x : Int} {r : List Int} (h : Wf (x :: r)) : Wf r := fun y hy => h y (List.mem_cons_of_mem _ hy)

theorem Wf.append {a b : List Int} (h : Wf a) (k : Wf b) : Wf (a ++ b) := fun x hx => (List.mem_append.1 hx).elim (h x) (k x)

theorem Wf.take {a : List Int} (h : Wf a) (n : Nat) : Wf (a.take n) := fun x hx => h x (List.mem_of_mem_take hx)

theorem Wf.getD {a : List Int} (h : Wf a) (i : Nat) : 0 ≤ a.getD i 0 ∧ a.getD i 0 < 1000000000 := by
  rw [List.getD_eq_getElem?_getD]
  cases hi : a[i]? with
  | none => simp
  | some x => exact h x (List.mem_of_getElem? hi)

theorem Wf.set {a : List Int} (h : Wf a) (i : Nat) {x : Int} (h0 : 0 ≤ x) (h1 : x < 1000000000) : Wf (a.set i x) := by
  intro y hy
  rcases List.mem_or_eq_of_mem_set hy with hy | rfl
  · exact h y hy
  · exact ⟨h0, h1⟩

theorem Wf.replicate (n : Nat) : Wf (List.replicate n 0) := by
  intro x hx
  rw [(List.mem_replicate.1 hx).2]
  decide

theorem val_nonneg : ∀ {l : List Int}, Wf l → 0 ≤ val l
  | [], _ => Int.le_refl 0
  | x :: r, h => by
    have h1 := val_nonneg h.tail
    have h2 := h.head
    simp only [val]
    omega

theorem val_append (a b : List Int) : val (a ++ b) = val a + 1000000000 ^ a.length * val b := by
  induction a with
  | nil => simp [val]
  | cons x r ih =>
    simp only [List.cons_append, val, ih, List.length_cons, Int.pow_succ]
    rw [Int.mul_add, Int.add_assoc]
    congr 2
    rw [Int.mul_comm (1000000000 ^ r.length) 1000000000, Int.mul_assoc]

theorem val_lt {l : List Int} (h : Wf l) : val l < 1000000000 ^ l.length := by
  induction l with
  | nil => simp [val]
  | cons x r ih =>
    have h1 := ih h.tail
    have h2 := h.head
    simp only [val, List.length_cons, Int.pow_succ]
    omega

theorem val_replicate (n : Nat) : val (List.replicate n 0) = 0 := by
  induction n with
  | zero => rfl
  | succ n ih => simp [List.replicate_succ, val, ih]

/-- The canonical list. -/
def lim (n : Nat) : List Int := if h : n = 0 then [] else ((n % 1000000000 : Nat) : Int) :: lim (n / 1000000000)
decreasing_by exact Nat.div_lt_self (Nat.pos_of_ne_zero h) (by decide)

theorem lim_zero : lim 0 = [] := by rw [lim]; simp

theorem lim_pos {n : Nat} (h : n ≠ 0) : lim n = ((n % 1000000000 : Nat) : Int) :: lim (n / 1000000000) := by rw [lim, dif_neg h]

theorem val_lim (n : Nat) : val (lim n) = n := by
  induction n using Nat.strongRecOn with
  | _ n ih =>
    by_cases h : n = 0
    · subst h; rw [lim_zero]; rfl
    · rw [lim_pos h, val, ih _ (Nat.div_lt_self (Nat.pos_of_ne_zero h) (by decide))]
      omega

theorem Wf_lim (n : Nat) : Wf (lim n) := by
  induction n using Nat.strongRecOn with
  | _ n ih =>
    by_cases h : n = 0
    · subst h; rw [lim_zero]; exact Wf.nil
    · rw [lim_pos h]
      exact Wf.cons (by omega) (by omega) (ih _ (Nat.div_lt_self (Nat.pos_of_ne_zero h) (by decide)))

/-- No zero at the end. -/
def Nm : List Int → Prop
  | [] => True
  | [x] => x ≠ 0
  | _ :: r => Nm r

theorem Nm.tail {x y : Int} {r : List Int} (h : Nm (x :: y :: r)) : Nm (y :: r) := h

theorem val_pos : ∀ {l : List Int}, Wf l → Nm l → l ≠ [] → 0 < val l
  | [], _, _, h => absurd rfl h
  | [x], hw, hn, _ => by
    have := hw.head
    have hn : x ≠ 0 := hn
    simp only [val]
    omega
  | x :: y :: r, hw, hn, _ => by
    have h1 := val_pos hw.tail hn.tail (by simp)
    have h2 := hw.head
    rw [val]
    omega

theorem lim_val : ∀ {l : List Int}, Wf l → Nm l → lim (val l).toNat = l
  | [], _, _ => lim_zero
  | x :: r, hw, hn => by
    have hp := val_pos hw hn (by simp)
    have h2 := hw.head
    have h3 := val_nonneg hw.tail
    rw [lim_pos (by omega)]
    have e1 : (((val (x :: r)).toNat % 1000000000 : Nat) : Int) = x := by
      simp only [val] at hp ⊢
      omega
    have e2 : (val (x :: r)).toNat / 1000000000 = (val r).toNat := by
      simp only [val] at hp ⊢
      omega
    rw [e1, e2]
    congr 1
    cases r with
    | nil => exact lim_zero
    | cons y r => exact lim_val hw.tail hn.tail

theorem Nm_lim (n : Nat) : Nm (lim n) := by
  induction n using Nat.strongRecOn with
  | _ n ih =>
    by_cases h : n = 0
    · subst h; rw [lim_zero]; trivial
    · rw [lim_pos h]
      have hlt := Nat.div_lt_self (Nat.pos_of_ne_zero h) (show 1 < 1000000000 by decide)
      by_cases h2 : n / 1000000000 = 0
      · rw [h2, lim_zero]
        show ((n % 1000000000 : Nat) : Int) ≠ 0
        omega
      · have := ih _ hlt
        rw [lim_pos h2] at this ⊢
        exact this

/-- The list without zeros at the end is the canonical one. -/
theorem take_lim {l : List Int} (hw : Wf l) {n : Nat} (hn : n ≤ l.length) (hz : ∀ i, n ≤ i → i < l.length → l.getD i 0 = 0) (hl : 0 < n → l.getD (n - 1) 0 ≠ 0) : l.take n = lim (val l).toNat := by
  have hz2 : ∀ (r : List Int), (∀ i, i < r.length → r.getD i 0 = 0) → val r = 0 := by
    intro r
    induction r with
    | nil => intro _; rfl
    | cons x r ih =>
      intro h
      have h0 := h 0 (by simp)
      have h1 := ih fun i hi => by have := h (i + 1) (by simpa using hi); simpa using this
      simp only [List.getD_cons_zero] at h0
      simp [val, h0, h1]
  have hv : val l = val (l.take n) := by
    conv => lhs; rw [← List.take_append_drop n l]
    rw [val_append, hz2 (l.drop n) fun i hi => ?_]
    · simp
    · have := hz (n + i) (by omega) (by simp at hi; omega)
      simpa [List.getD_eq_getElem?_getD] using this
  have hNm : ∀ (r : List Int), (r ≠ [] → r.getD (r.length - 1) 0 ≠ 0) → Nm r := by
    intro r
    induction r with
    | nil => intro _; trivial
    | cons x r ih =>
      intro h
      cases r with
      | nil =>
        have := h (by simp)
        show x ≠ 0
        simpa using this
      | cons y r =>
        show Nm (y :: r)
        refine ih fun _ => ?_
        have := h (by simp)
        simpa using this
  have hn2 : Nm (l.take n) := by
    refine hNm _ fun hne => ?_
    have hlen : (l.take n).length = n := by simp; omega
    have hnp : 0 < n := by
      rcases Nat.eq_zero_or_pos n with e | e
      · subst e; exact absurd (by simp) hne
      · exact e
    rw [hlen]
    have := hl hnp
    rw [List.getD_eq_getElem?_getD] at this ⊢
    rw [List.getElem?_take_of_lt (by omega)]
    exact this
  rw [hv]
  exact (lim_val (hw.take n) hn2).symm

theorem val_take_succ (a : List Int) (i : Nat) : val (a.take (i + 1)) = val (a.take i) + 1000000000 ^ i * a.getD i 0 := by
  rcases Nat.lt_or_ge i a.length with h | h
  · rw [List.take_succ_eq_append_getElem h, val_append, List.getD_eq_getElem?_getD, List.getElem?_eq_getElem h]
    simp [val, List.length_take, Nat.min_eq_left (Nat.le_of_lt h)]
  · rw [List.take_of_length_le (by omega), List.take_of_length_le h, getD_big h]
    simp

theorem val_set {r : List Int} {i : Nat} (h : i < r.length) (v : Int) : val (r.set i v) = val r + 1000000000 ^ i * (v - r.getD i 0) := by
  induction r generalizing i with
  | nil => simp at h
  | cons x r ih =>
    cases i with
    | zero => simp [val]; omega
    | succ i =>
      have := ih (i := i) (by simpa using h)
      simp only [List.set_cons_succ, val, this, List.getD_cons_succ, Int.pow_succ]
      grind

theorem powB (i : Nat) : (1000000000 : Int) ^ (i + 1) = 1000000000 ^ i * 1000000000 := Int.pow_succ ..

theorem powB_pos (i : Nat) : (0 : Int) < 1000000000 ^ i := Int.pow_pos (by decide)

theorem val_take_all {a : List Int} {i : Nat} (h : a.length ≤ i) : val (a.take i) = val a := by rw [List.take_of_length_le h]

/-- One limb of a product. -/
theorem mul_limb {P c x y r s V : Int} (hs : s = c + x * y + r) : V + P * (s % 1000000000 - r) + P * 1000000000 * (s / 1000000000) = V + P * c + P * (x * y) := by
  have h : s % 1000000000 + 1000000000 * (s / 1000000000) = s := by omega
  grind

theorem mul_bound {c x y r : Int} (hc : 0 ≤ c) (hc' : c < 1000000000) (hx : 0 ≤ x) (hx' : x < 1000000000) (hy : 0 ≤ y) (hy' : y < 1000000000) (hr : 0 ≤ r) (hr' : r < 1000000000) :
    0 ≤ x * y ∧ x * y ≤ 999999998000000001 ∧ 0 ≤ c + x * y + r ∧ c + x * y + r < 1000000000000000000 := by
  have h1 := Int.mul_le_mul (show x ≤ 999999999 by omega) (show y ≤ 999999999 by omega) hy (by decide)
  have h2 := Int.mul_nonneg hx hy
  have h3 : (999999999 : Int) * 999999999 = 999999998000000001 := by decide
  rw [h3] at h1
  omega

/-- What the inner loop does: x times b is added from place i on. -/
structure InnerOK (b r : List Int) (i : Nat) (x : Int) (k : Nat) (c : Int) (r' : List Int) : Prop where
  len : r'.length = r.length
  wf : Wf r'
  c0 : 0 ≤ c
  c1 : c < 1000000000
  vl : val r' + 1000000000 ^ (i + k) * c = val r + 1000000000 ^ i * (x * val (b.take k))
  hi : ∀ j, i + k ≤ j → r'.getD j 0 = r.getD j 0

theorem InnerOK.zero {b r : List Int} {i : Nat} {x : Int} (hw : Wf r) : InnerOK b r i x 0 0 r :=
  ⟨rfl, hw, by omega, by omega, by simp [val], fun _ _ => rfl⟩

theorem InnerOK.step {b r : List Int} {i : Nat} {x : Int} {k : Nat} {c : Int} {r' : List Int} (h : InnerOK b r i x k c r') (wb : Wf b) (hx : 0 ≤ x) (hx1 : x < 1000000000) (hk : i + k < r.length) :
    InnerOK b r i x (k + 1) ((c + x * b.getD k 0 + r'.getD (i + k) 0) / 1000000000) (r'.set (i + k) ((c + x * b.getD k 0 + r'.getD (i + k) 0) % 1000000000)) := by
  have xb := wb.getD k
  have xr := h.wf.getD (i + k)
  have hb := mul_bound h.c0 h.c1 hx hx1 xb.1 xb.2 xr.1 xr.2
  have hl := h.len
  refine ⟨by simp [hl], h.wf.set _ (by omega) (by omega), by omega, by omega, ?_, fun j hj => ?_⟩
  · rw [val_set (by omega), val_take_succ, show i + (k + 1) = (i + k) + 1 by omega, powB]
    have e1 := mul_limb (P := 1000000000 ^ (i + k)) (V := val r') (c := c) (x := x) (y := b.getD k 0) (r := r'.getD (i + k) 0) (s := c + x * b.getD k 0 + r'.getD (i + k) 0) rfl
    have e2 : (1000000000 : Int) ^ (i + k) = 1000000000 ^ i * 1000000000 ^ k := Int.pow_add ..
    have e3 := h.vl
    grind
  · rw [getD_set, if_neg (by omega)]
    exact h.hi j (by omega)

/-- The outer loop: a's first i limbs times b. -/
structure OuterOK (a b : List Int) (i : Nat) (r : List Int) : Prop where
  len : r.length = a.length + b.length
  wf : Wf r
  vl : val r = val (a.take i) * val b
  hi : ∀ j, i + b.length ≤ j → r.getD j 0 = 0

theorem OuterOK.zero (a b : List Int) : OuterOK a b 0 (List.replicate (a.length + b.length) 0) :=
  ⟨by simp, Wf.replicate _, by simp [val, val_replicate], fun j _ => by
    rw [List.getD_eq_getElem?_getD, List.getElem?_replicate]
    split <;> rfl⟩

theorem OuterOK.step {a b : List Int} {i : Nat} {r r' : List Int} {c : Int} (h : OuterOK a b i r) (hI : InnerOK b r i (a.getD i 0) b.length c r') (hi : i < a.length) : OuterOK a b (i + 1) (r'.set (i + b.length) c) := by
  have hl := h.len
  have hl' := hI.len
  have h0 : r'.getD (i + b.length) 0 = 0 := by rw [hI.hi _ (Nat.le_refl _), h.hi _ (Nat.le_refl _)]
  refine ⟨by simp [hl', hl], hI.wf.set _ hI.c0 hI.c1, ?_, fun j hj => ?_⟩
  · rw [val_set (by omega), h0, val_take_succ]
    have e1 := hI.vl
    have e2 := h.vl
    rw [val_take_all (Nat.le_refl _)] at e1
    grind
  · rw [getD_set, if_neg (by omega), hI.hi _ (by omega), h.hi _ (by omega)]

theorem lim_eq_nil {n : Nat} : lim n = [] ↔ n = 0 := by
  constructor
  · intro h
    have := val_lim n
    rw [h] at this
    simp only [val] at this
    omega
  · rintro rfl
    exact lim_zero

theorem lim_inj {a b : Nat} (h : lim a = lim b) : a = b := by
  have h1 := val_lim a
  have h2 := val_lim b
  rw [h] at h1
  omega

theorem Nm.last : ∀ {l : List Int}, Nm l → 0 < l.length → l.getD (l.length - 1) 0 ≠ 0
  | [x], h, _ => h
  | x :: y :: r, h, _ => by
    have := Nm.last (l := y :: r) h (by simp)
    simpa using this

theorem castB (m : Nat) : ((1000000000 ^ m : Nat) : Int) = (1000000000 : Int) ^ m := Int.natCast_pow 1000000000 m

theorem lim_length_of {n k : Nat} (h : n < 1000000000 ^ k) : (lim n).length ≤ k := by
  by_cases h0 : n = 0
  · subst h0; rw [lim_zero]; simp
  · have hp : 0 < (lim n).length := by
      rcases Nat.eq_zero_or_pos (lim n).length with q | q
      · exact (h0 (lim_eq_nil.1 (List.eq_nil_of_length_eq_zero q))).elim
      · exact q
    obtain ⟨m, hm⟩ : ∃ m, (lim n).length = m + 1 := ⟨(lim n).length - 1, by omega⟩
    have h1 := (Nm_lim n).last hp
    have h2 := val_take_succ (lim n) m
    rw [← hm, List.take_length, val_lim] at h2
    have h3 := val_nonneg ((Wf_lim n).take m)
    have h4 := (Wf_lim n).getD m
    rw [hm, Nat.add_sub_cancel] at h1
    have h5 : (1000000000 : Int) ^ m ≤ n := by
      have h6 : (1000000000 : Int) ^ m * 1 ≤ 1000000000 ^ m * (lim n).getD m 0 := Int.mul_le_mul_of_nonneg_left (by omega) (Int.le_of_lt (powB_pos m))
      omega
    have h7 : 1000000000 ^ m ≤ n := by rw [← castB] at h5; exact Int.ofNat_le.1 h5
    have h8 : 1000000000 ^ m < 1000000000 ^ k := by omega
    have := (Nat.pow_lt_pow_iff_right (by decide : 1 < 1000000000)).1 h8
    omega

theorem lim_lt (n : Nat) : n < 1000000000 ^ (lim n).length := by
  have := val_lt (Wf_lim n)
  rw [val_lim, ← castB] at this
  exact Int.ofNat_lt.1 this

theorem lim_length_mono {a b : Nat} (h : a ≤ b) : (lim a).length ≤ (lim b).length := lim_length_of (Nat.lt_of_le_of_lt h (lim_lt b))

/-- An integer as the texts hold it. -/
def zl (z : Int) : Bool × List Int := (decide (z < 0), lim z.natAbs)

theorem val_split (l : List Int) (k : Nat) (h : k ≤ l.length) : val l = val (l.take k) + 1000000000 ^ k * val (l.drop k) := by
  have := val_append (l.take k) (l.drop k)
  rw [List.take_append_drop, List.length_take, Nat.min_eq_left h] at this
  exact this

theorem val_take_lt {l : List Int} (hw : Wf l) (k : Nat) (h : k ≤ l.length) : val (l.take k) < 1000000000 ^ k := by
  have := val_lt (hw.take k)
  rw [List.length_take, Nat.min_eq_left h] at this
  exact this

/-- Equal above a place, less there: less. -/
theorem lt_at {a b : List Int} (wa : Wf a) (wb : Wf b) {k : Nat} (ha : k < a.length) (hb : k < b.length) (he : a.drop (k + 1) = b.drop (k + 1)) (hlt : a.getD k 0 < b.getD k 0) : val a < val b := by
  rw [val_split a k (by omega), val_split b k (by omega), drop_at ha, drop_at hb, he]
  simp only [val]
  have h1 := val_take_lt wa k (by omega)
  have h2 := val_nonneg (wb.take k)
  have h3 := powB_pos k
  generalize (1000000000 : Int) ^ k = P at *
  generalize val (b.drop (k + 1)) = V at *
  generalize a.getD k 0 = A at *
  generalize b.getD k 0 = C at *
  have h4 : P * (A + 1000000000 * V) + P = P * (A + 1 + 1000000000 * V) := by grind
  have h5 : P * (A + 1 + 1000000000 * V) ≤ P * (C + 1000000000 * V) := Int.mul_le_mul_of_nonneg_left (by omega) (by omega)
  omega

theorem lim_shorter {a b : Nat} (h : (lim a).length < (lim b).length) : a < b := by
  rcases Nat.lt_or_ge a b with q | q
  · exact q
  · have := lim_length_mono q
    omega

theorem sub_limb {P c x y V : Int} (t : Int) (h : t = if x - y - c < 0 then 1 else 0) : V + P * ((x - y - c) % 1000000000) - P * 1000000000 * t = V + P * x - P * y - P * c ∨ ¬ (0 ≤ x ∧ x < 1000000000 ∧ 0 ≤ y ∧ y < 1000000000 ∧ 0 ≤ c ∧ c ≤ 1) := by
  by_cases q : 0 ≤ x ∧ x < 1000000000 ∧ 0 ≤ y ∧ y < 1000000000 ∧ 0 ≤ c ∧ c ≤ 1
  · left
    have h2 : (x - y - c) % 1000000000 = x - y - c + 1000000000 * t := by
      rw [h]
      split <;> omega
    rw [h2]
    grind
  · exact .inr q

/-- One round of a difference: what its invariant says. -/
structure SubOK (a b : List Int) (i : Nat) (r : List Int) (c : Int) : Prop where
  wf : Wf r
  c0 : 0 ≤ c
  c1 : c ≤ 1
  v : val (r.take i) - 1000000000 ^ i * c = val (a.take i) - val (b.take i)

theorem SubOK.step {a b r r' : List Int} {i : Nat} {c : Int} (h : SubOK a b i r c) (wa : Wf a) (wb : Wf b) (hr : r'.take i = r.take i) (hw : Wf r') (hd : r'.getD i 0 = (a.getD i 0 - b.getD i 0 - c) % 1000000000) : SubOK a b (i + 1) r' (bor (a.getD i 0 - b.getD i 0 - c)) := by
  refine ⟨hw, (bor_range _).1, (bor_range _).2, ?_⟩
  rw [val_take_succ, val_take_succ, val_take_succ, powB, hr, hd]
  have h1 := wa.getD i
  have h2 := wb.getD i
  have h3 := h.v
  have h4 := sub_limb (P := 1000000000 ^ i) (c := c) (x := a.getD i 0) (y := b.getD i 0) (V := val (r.take i)) (bor (a.getD i 0 - b.getD i 0 - c)) rfl
  rcases h4 with h4 | h4
  · grind
  · exact (h4 ⟨h1.1, h1.2, h2.1, h2.2, h.c0, h.c1⟩).elim

theorem SubOK.done {a b r : List Int} {c : Int} (h : SubOK a b a.length r c) (hr : r.length = a.length) (hb : b.length ≤ a.length) (hle : val b ≤ val a) : val r = val a - val b := by
  have h1 := h.v
  rw [val_take_all (by omega), val_take_all (Nat.le_refl _), val_take_all hb] at h1
  have h2 := val_lt h.wf
  rw [hr] at h2
  have h3 := h.c0
  have h4 := h.c1
  have h5 := powB_pos a.length
  generalize (1000000000 : Int) ^ a.length = P at *
  rcases (show c = 0 ∨ c = 1 by omega) with rfl | rfl
  · omega
  · omega

theorem sgn_natAbs (neg : Bool) (n : Nat) : (sgn neg n).natAbs = n := by
  unfold sgn
  cases neg <;> simp

theorem zl_sgn (neg : Bool) (n : Nat) : zl (sgn neg n) = (neg && decide (0 < (lim n).length), lim n) := by
  unfold zl
  rw [sgn_natAbs]
  congr 1
  unfold sgn
  cases neg
  · simp
  · simp only [if_true, Bool.true_and]
    rw [decide_eq_decide]
    constructor
    · intro h
      rcases Nat.eq_zero_or_pos (lim n).length with q | q
      · have := lim_eq_nil.1 (List.eq_nil_of_length_eq_zero q)
        omega
      · exact q
    · intro h
      have : n ≠ 0 := by
        rintro rfl
        rw [lim_zero] at h
        simp at h
      omega

theorem sgn_zl (z : Int) : sgn (decide (z < 0)) z.natAbs = z := by
  unfold sgn
  by_cases h : z < 0
  · rw [decide_eq_true h, if_pos rfl]; omega
  · rw [decide_eq_false h, if_neg (by decide)]; omega

/-- So long at most. -/
def Sz (k : Nat) (z : Int) : Prop := (lim z.natAbs).length ≤ k

theorem lim_add_length (a b : Nat) : (lim (a + b)).length ≤ max (lim a).length (lim b).length + 1 := by
  refine lim_length_of ?_
  have h1 := lim_lt a
  have h2 := lim_lt b
  have h3 : 1000000000 ^ (lim a).length ≤ 1000000000 ^ max (lim a).length (lim b).length := Nat.pow_le_pow_right (by decide) (Nat.le_max_left ..)
  have h4 : 1000000000 ^ (lim b).length ≤ 1000000000 ^ max (lim a).length (lim b).length := Nat.pow_le_pow_right (by decide) (Nat.le_max_right ..)
  rw [Nat.pow_succ]
  omega

theorem Sz.add {j k : Nat} {x y : Int} (hx : Sz j x) (hy : Sz k y) : Sz (max j k + 1) (x + y) := by
  have h1 := lim_add_length x.natAbs y.natAbs
  have h2 := lim_length_mono (Int.natAbs_add_le x y)
  unfold Sz at *
  omega

theorem lim_mul_length (a b : Nat) : (lim (a * b)).length ≤ (lim a).length + (lim b).length := by
  refine lim_length_of ?_
  rw [Nat.pow_add]
  have h1 := lim_lt a
  have h2 := lim_lt b
  by_cases hb : b = 0
  · subst hb
    rw [Nat.mul_zero]
    exact Nat.mul_pos (Nat.pow_pos (by decide)) (Nat.pow_pos (by decide))
  · exact Nat.mul_lt_mul_of_lt_of_le h1 (Nat.le_of_lt h2) (Nat.lt_of_le_of_lt (Nat.zero_le _) h2)

theorem Sz.mul {j k : Nat} {x y : Int} (hx : Sz j x) (hy : Sz k y) : Sz (j + k) (x * y) := by
  unfold Sz at *
  rw [Int.natAbs_mul]
  have := lim_mul_length x.natAbs y.natAbs
  omega

theorem Sz.neg {k : Nat} {x : Int} (hx : Sz k x) : Sz k (-x) := by
  unfold Sz at *
  rw [Int.natAbs_neg]
  exact hx

theorem Sz.mono {j k : Nat} {x : Int} (h : Sz j x) (hk : j ≤ k) : Sz k x := Nat.le_trans h hk

theorem Sz.le {k : Nat} {x y : Int} (h : Sz k y) (hx : x.natAbs ≤ y.natAbs) : Sz k x := Nat.le_trans (lim_length_mono hx) h
end M

end Go.Proofs.Rf
/- What the reference's functions on numbers come to: trimmed, sums, differences. -/
namespace Go.Proofs.Rf
open Go Go.RowKit

theorem trim_ind {A B : Type} {f : A → Option (A ⊕ B)} (st : Nat → A) (fin : Nat → B) (l : List Int) (h0 : f (st 0) = some (.inr (fin 0)))
    (hs : ∀ n, n < l.length → f (st (n + 1)) = if (l.getD n 0 == 0) = true then some (.inl (st n)) else some (.inr (fin (n + 1)))) :
    ∃ n : Nat, limL f (st l.length) = some (fin n) ∧ n ≤ l.length ∧ (∀ i, n ≤ i → i < l.length → l.getD i 0 = 0) ∧ (0 < n → l.getD (n - 1) 0 ≠ 0) := by
  have key : ∀ k, k ≤ l.length → (∀ i, k ≤ i → i < l.length → l.getD i 0 = 0) → ∃ n : Nat, limL f (st k) = some (fin n) ∧ n ≤ l.length ∧ (∀ i, n ≤ i → i < l.length → l.getD i 0 = 0) ∧ (0 < n → l.getD (n - 1) 0 ≠ 0) := by
    intro k
    induction k with
    | zero =>
      intro hk hz
      exact ⟨0, by rw [limL_eq, h0], hk, hz, fun h => absurd h (by omega)⟩
    | succ k ih =>
      intro hk hz
      rw [limL_eq, hs k (by omega)]
      by_cases hx : l.getD k 0 = 0
      · rw [if_pos (by rw [hx]; rfl)]
        refine ih (by omega) fun i h1 h2 => ?_
        rcases Nat.eq_or_lt_of_le h1 with q | q
        · rw [← q]; exact hx
        · exact hz i (by omega) h2
      · rw [if_neg (by simpa using hx)]
        exact ⟨k + 1, rfl, hk, hz, fun _ => hx⟩
  exact key l.length (Nat.le_refl _) fun i h1 h2 => absurd h2 (by omega)

open D
/-- The sign of a difference of integers. -/
def sgi (a b : Int) : Int := if a < b then -1 else if a = b then 0 else 1

end Go.Proofs.Rf
/- Decimal strings; the reference's Read, Write, Text and Small. -/
namespace Go.Proofs.Rf
open Go Go.RowKit D

abbrev dec := Lib.decDigits

/-- All are digits. -/
def IsD (s : List UInt8) : Prop := ∀ c ∈ s, 48 ≤ c.toNat ∧ c.toNat ≤ 57

/-- The value of digits. -/
def dv : List UInt8 → Nat
  | [] => 0
  | c :: s => (c.toNat - 48) * 10 ^ s.length + dv s

theorem dv_append (s t : List UInt8) : dv (s ++ t) = dv s * 10 ^ t.length + dv t := by
  induction s with
  | nil => simp [dv]
  | cons c s ih =>
    simp only [List.cons_append, dv, List.length_append, ih, Nat.pow_add]
    grind

theorem dv_snoc (s : List UInt8) (c : UInt8) : dv (s ++ [c]) = 10 * dv s + (c.toNat - 48) := by
  rw [dv_append]
  simp [dv]
  omega

theorem IsD.nil : IsD [] := fun _ h => by cases h
theorem IsD.append {s t : List UInt8} (h : IsD s) (k : IsD t) : IsD (s ++ t) := fun c hc => (List.mem_append.1 hc).elim (h c) (k c)
theorem IsD.left {s t : List UInt8} (h : IsD (s ++ t)) : IsD s := fun c hc => h c (List.mem_append_left _ hc)
theorem IsD.right {s t : List UInt8} (h : IsD (s ++ t)) : IsD t := fun c hc => h c (List.mem_append_right _ hc)
theorem IsD.one {d : Nat} (h : d < 10) : IsD [UInt8.ofNat (48 + d)] := by
  intro c hc
  rw [List.mem_singleton.1 hc, UInt8.toNat_ofNat']
  omega
theorem IsD.take {s : List UInt8} (h : IsD s) (n : Nat) : IsD (s.take n) := fun c hc => h c (List.mem_of_mem_take hc)
theorem IsD.drop {s : List UInt8} (h : IsD s) (n : Nat) : IsD (s.drop n) := fun c hc => h c (List.mem_of_mem_drop hc)
theorem IsD.getD {s : List UInt8} (h : IsD s) {i : Nat} (hi : i < s.length) : 48 ≤ (s.getD i 0).toNat ∧ (s.getD i 0).toNat ≤ 57 := by
  rw [List.getD_eq_getElem?_getD, List.getElem?_eq_getElem hi]
  exact h _ (List.getElem_mem hi)

theorem ofNat_d {d : Nat} (h : d < 10) : (UInt8.ofNat (48 + d)).toNat - 48 = d := by
  rw [UInt8.toNat_ofNat']
  omega

theorem u8_of {c : UInt8} (h : 48 ≤ c.toNat) : UInt8.ofNat (48 + (c.toNat - 48)) = c := by
  rw [show 48 + (c.toNat - 48) = c.toNat by omega]
  exact UInt8.ofNat_toNat

theorem dec_small {n : Nat} (h : n < 10) : dec n = [UInt8.ofNat (48 + n)] := by rw [dec, Lib.decDigits, dif_pos h]
theorem dec_big {n : Nat} (h : ¬ n < 10) : dec n = dec (n / 10) ++ [UInt8.ofNat (48 + n % 10)] := by rw [dec, Lib.decDigits, dif_neg h]

theorem dec_IsD (n : Nat) : IsD (dec n) := by
  induction n using Nat.strongRecOn with
  | _ n ih =>
    by_cases h : n < 10
    · rw [dec_small h]; exact IsD.one h
    · rw [dec_big h]
      exact (ih _ (by omega)).append (IsD.one (by omega))

theorem dv_dec (n : Nat) : dv (dec n) = n := by
  induction n using Nat.strongRecOn with
  | _ n ih =>
    by_cases h : n < 10
    · rw [dec_small h]
      simp only [dv, List.length_nil, ofNat_d h]
      omega
    · rw [dec_big h, dv_snoc, ih _ (by omega), ofNat_d (by omega)]
      omega

theorem dec_ne (n : Nat) : dec n ≠ [] := by
  by_cases h : n < 10
  · rw [dec_small h]; simp
  · rw [dec_big h]; simp

/-- No zero ahead, but for zero. -/
def NoZ (s : List UInt8) : Prop := s ≠ [] ∧ (s = [48] ∨ s.head? ≠ some 48)

theorem head_append {s t : List UInt8} (h : s ≠ []) : (s ++ t).head? = s.head? := by
  cases s with
  | nil => exact absurd rfl h
  | cons c s => rfl

theorem dec_NoZ (n : Nat) : NoZ (dec n) ∧ (n ≠ 0 → (dec n).head? ≠ some 48) := by
  induction n using Nat.strongRecOn with
  | _ n ih =>
    by_cases h : n < 10
    · rw [dec_small h]
      by_cases h0 : n = 0
      · subst h0
        exact ⟨⟨by simp, .inl rfl⟩, fun q => absurd rfl q⟩
      · have q : [UInt8.ofNat (48 + n)].head? ≠ some 48 := by
          intro e
          have e : UInt8.ofNat (48 + n) = 48 := by simpa using e
          have e := congrArg UInt8.toNat e
          rw [UInt8.toNat_ofNat'] at e
          simp at e
          omega
        exact ⟨⟨by simp, .inr q⟩, fun _ => q⟩
    · have h1 := (ih (n / 10) (by omega)).2 (by omega)
      rw [dec_big h]
      have h2 : (dec (n / 10) ++ [UInt8.ofNat (48 + n % 10)]).head? ≠ some 48 := by
        rw [head_append (dec_ne _)]; exact h1
      exact ⟨⟨by simp, .inr h2⟩, fun _ => h2⟩

theorem dv_pos {s : List UInt8} (hd : IsD s) (hn : s ≠ []) (hz : s.head? ≠ some 48) : 10 ^ (s.length - 1) ≤ dv s := by
  cases s with
  | nil => exact absurd rfl hn
  | cons c s =>
    have h1 := hd c (List.mem_cons_self ..)
    have h2 : c.toNat ≠ 48 := fun e => hz (by simp; exact UInt8.toNat_inj.1 e)
    simp only [dv, List.length_cons, Nat.add_sub_cancel]
    have : 1 * 10 ^ s.length ≤ (c.toNat - 48) * 10 ^ s.length := Nat.mul_le_mul_right _ (by omega)
    omega

theorem dv_lt {s : List UInt8} (hd : IsD s) : dv s < 10 ^ s.length := by
  induction s with
  | nil => simp [dv]
  | cons c s ih =>
    have h1 := hd c (List.mem_cons_self ..)
    have h2 := ih fun x hx => hd x (List.mem_cons_of_mem _ hx)
    simp only [dv, List.length_cons, Nat.pow_succ]
    have : (c.toNat - 48) * 10 ^ s.length ≤ 9 * 10 ^ s.length := Nat.mul_le_mul_right _ (by omega)
    omega

/-- A numeral without zeros ahead is the numeral of its value. -/
theorem dec_dv : ∀ {s : List UInt8}, IsD s → NoZ s → dec (dv s) = s := by
  have key : ∀ (n : Nat) (s : List UInt8), s.length = n → IsD s → NoZ s → dec (dv s) = s := by
    intro n
    induction n with
    | zero => intro s hl _ hn; exact absurd (List.eq_nil_of_length_eq_zero hl) hn.1
    | succ n ih =>
      intro s hl hd hn
      obtain ⟨t, c, rfl⟩ : ∃ t c, s = t ++ [c] := ⟨s.dropLast, s.getLast hn.1, (List.dropLast_concat_getLast hn.1).symm⟩
      have hc := hd c (by simp)
      rw [dv_snoc]
      by_cases ht : t = []
      · subst ht
        simp only [dv, Nat.mul_zero, Nat.zero_add, List.nil_append]
        rw [dec_small (by omega), u8_of hc.1]
      · have htz : t.head? ≠ some 48 := by
          rcases hn.2 with q | q
          · have := congrArg List.length q
            simp at this
            exact absurd this ht
          · rw [head_append ht] at q; exact q
        have hp := dv_pos hd.left ht htz
        have hp1 : 0 < dv t := Nat.lt_of_lt_of_le (Nat.pow_pos (by decide)) hp
        rw [dec_big (by omega), show (10 * dv t + (c.toNat - 48)) / 10 = dv t by omega, show (10 * dv t + (c.toNat - 48)) % 10 = c.toNat - 48 by omega, u8_of hc.1, ih t (by simpa using hl) hd.left ⟨ht, .inr htz⟩]
  exact fun {s} hd hn => key _ s rfl hd hn

theorem dec_length_le {n k : Nat} (h : n < 10 ^ k) (hk : 0 < k) : (dec n).length ≤ k := by
  by_cases h0 : n = 0
  · subst h0
    rw [dec_small (by omega)]
    exact hk
  · have h1 := dv_pos (dec_IsD n) (dec_ne n) ((dec_NoZ n).2 h0)
    rw [dv_dec] at h1
    rcases Nat.lt_or_ge k (dec n).length with q | q
    · have := Nat.pow_le_pow_right (n := 10) (by decide) (show k ≤ (dec n).length - 1 by omega)
      omega
    · exact q

/-- The string of a number. -/
def str (z : Int) : List UInt8 := if z < 0 then 45 :: dec z.natAbs else dec z.natAbs

/-- The number of a string. -/
def sv (s : List UInt8) : Int := if s.head? = some 45 then -(dv (s.drop 1) : Int) else dv s

theorem dec_head45 (n : Nat) : (dec n).head? ≠ some 45 := by
  intro e
  have h := dec_IsD n
  cases hd : dec n with
  | nil => rw [hd] at e; simp at e
  | cons c t =>
    rw [hd] at e h
    have e : c = 45 := by simpa using e
    have := h c (List.mem_cons_self ..)
    rw [e] at this
    exact absurd this.1 (by decide)

theorem sv_str (z : Int) : sv (str z) = z := by
  unfold sv str
  by_cases h : z < 0
  · rw [if_pos h, if_pos (by simp)]
    simp only [List.drop_succ_cons, List.drop_zero, dv_dec]
    omega
  · rw [if_neg h, if_neg (dec_head45 _), dv_dec]
    omega

theorem getD_drop8 {s : List UInt8} {i : Nat} (h : i < s.length) : s.drop i = s.getD i 0 :: s.drop (i + 1) := by
  rw [List.drop_eq_getElem_cons h, List.getD_eq_getElem?_getD, List.getElem?_eq_getElem h]
  rfl

end Go.Proofs.Rf
/- The reference's products, powers and order. -/
namespace Go.Proofs.Rf
open Go Go.RowKit D
/-- The outer loop: a's first i digits times b. -/
structure OutD (a b : List Int) (i : Nat) (r : List Int) : Prop where
  len : r.length = a.length + b.length + 1
  wf : Wf r
  vl : val r = val (a.take i) * val b
  hi : ∀ j, i + b.length ≤ j → r.getD j 0 = 0

theorem OutD.zero (a b : List Int) : OutD a b 0 (List.replicate (a.length + b.length + 1) 0) :=
  ⟨by simp, Wf.replicate _, by simp [val, val_replicate], fun j _ => by
    rw [List.getD_eq_getElem?_getD, List.getElem?_replicate]
    split <;> rfl⟩

theorem OutD.step {a b : List Int} {i : Nat} {r r' : List Int} (h : OutD a b i r) (hI : InnerOK b r i (a.getD i 0) (b.length + 1) 0 r') : OutD a b (i + 1) r' := by
  have hl := h.len
  have hl' := hI.len
  refine ⟨by omega, hI.wf, ?_, fun j hj => ?_⟩
  · rw [val_take_succ]
    have e1 := hI.vl
    have e2 := h.vl
    rw [val_take_all (show b.length ≤ b.length + 1 by omega)] at e1
    grind
  · rw [hI.hi _ (by omega), h.hi _ (by omega)]

end Go.Proofs.Rf
/- The reference's quotients and remainders. -/
namespace Go.Proofs.Rf
open Go Go.RowKit D
end Go.Proofs.Rf
/- Numerals and names of types: what both texts check. -/
namespace Go.Proofs.Rf
open Go Go.RowKit D

theorem decode_lo {s : List UInt8} {p : Nat} (hp : p < s.length) (h : (s.getD p 0).toNat < 128) : Utf8.decode ⟨s.toArray⟩ p = ((s.getD p 0).toNat, 1) := by
  have hp' : p < (⟨s.toArray⟩ : ByteArray).size := by simpa [ByteArray.size] using hp
  have e : (⟨s.toArray⟩ : ByteArray)[p]'hp' = s.getD p 0 := by
    rw [List.getD_eq_getElem?_getD, List.getElem?_eq_getElem hp]
    rfl
  have := decode_ascii ⟨s.toArray⟩ p hp' (by rw [e]; exact h)
  rw [e] at this
  exact this

theorem decode_hi {s : List UInt8} {p : Nat} (hp : p < s.length) (h : 128 ≤ (s.getD p 0).toNat) : 128 ≤ (Utf8.decode ⟨s.toArray⟩ p).1 := by
  have hp' : p < (⟨s.toArray⟩ : ByteArray).size := by simpa [ByteArray.size] using hp
  have e : (⟨s.toArray⟩ : ByteArray)[p]'hp' = s.getD p 0 := by
    rw [List.getD_eq_getElem?_getD, List.getElem?_eq_getElem hp]
    rfl
  exact (decode_high ⟨s.toArray⟩ p hp' (by rw [e]; exact h)).1

def isd (c : UInt8) : Bool := decide (48 ≤ c.toNat) && decide (c.toNat ≤ 57)

theorem isd_iff {c : UInt8} : isd c = true ↔ 48 ≤ c.toNat ∧ c.toNat ≤ 57 := by simp [isd]

theorem all_isd {s : List UInt8} : s.all isd = true ↔ IsD s := by
  rw [List.all_eq_true]
  exact ⟨fun h c hc => isd_iff.1 (h c hc), fun h c hc => isd_iff.2 (h c hc)⟩

theorem all_drop {s : List UInt8} {p : Nat} (hp : p < s.length) : (s.drop p).all isd = (isd (s.getD p 0) && (s.drop (p + 1)).all isd) := by
  rw [getD_drop8 hp, List.all_cons]

/-- A numeral: digits alone, one at least, no zeros ahead. -/
def num (s : List UInt8) : Bool := s.all isd && !(s == []) && (s == [48] || !(s.getD 0 0 == 48))

theorem num_iff {s : List UInt8} : num s = true ↔ IsD s ∧ NoZ s := by
  unfold num NoZ
  rw [Bool.and_eq_true, Bool.and_eq_true, all_isd]
  cases s with
  | nil => simp
  | cons c s => simp

theorem S89_spec {s : List UInt8} : limL S89_2 ((s, (), ()), ((s, 0), ())) = some (if s.all isd = true then .inr ((s, ()), ()) else .inl ((false, ()), ())) := by
  obtain ⟨z, h1, rfl⟩ := limL_ind (f := S89_2) (fun x => s.length - x.2.1.2)
    (fun x => ∃ p : Nat, x = ((s, (), ()), ((s, p), ())) ∧ p ≤ s.length ∧ s.all isd = (s.drop p).all isd)
    (fun z => z = (if s.all isd = true then .inr ((s, ()), ()) else .inl ((false, ()), ()))) (by
    rintro x ⟨p, rfl, hp, hall⟩
    by_cases hlt : p < s.length
    · have e := S89_2_eq s s p
      rw [if_pos hlt] at e
      rw [all_drop hlt] at hall
      by_cases hc : (s.getD p 0).toNat < 128
      · have hd : Utf8.decode { data := { toList := s } } p = _ := decode_lo hlt hc
        rw [hd] at e
        by_cases hb : isd (s.getD p 0) = true
        · left
          have hb' := isd_iff.1 hb
          rw [if_neg (by rw [decide_eq_true_eq]; omega), if_neg (by rw [decide_eq_true_eq]; omega)] at e
          refine ⟨_, e, ⟨p + 1, rfl, by omega, by rw [hall, hb, Bool.true_and]⟩, by show s.length - (p + 1) < s.length - p; omega⟩
        · right
          have hb' : ¬ (48 ≤ (s.getD p 0).toNat ∧ (s.getD p 0).toNat ≤ 57) := fun h => hb (isd_iff.2 h)
          rw [Bool.eq_false_iff.2 hb, Bool.false_and] at hall
          rw [hall]
          by_cases h1 : (s.getD p 0).toNat < 48
          · rw [if_pos (by rw [decide_eq_true_eq]; omega)] at e
            exact ⟨_, e, rfl⟩
          · rw [if_neg (by rw [decide_eq_true_eq]; omega), if_pos (by rw [decide_eq_true_eq]; omega)] at e
            exact ⟨_, e, rfl⟩
      · right
        have hh : 128 ≤ (Utf8.decode { data := { toList := s } } p).1 := decode_hi hlt (by omega)
        have hb : isd (s.getD p 0) = false := by rw [Bool.eq_false_iff]; exact fun h => by have := isd_iff.1 h; omega
        rw [hb, Bool.false_and] at hall
        rw [hall]
        rw [if_neg (by rw [decide_eq_true_eq]; omega), if_pos (by rw [decide_eq_true_eq]; omega)] at e
        exact ⟨_, e, rfl⟩
    · right
      refine ⟨_, by rw [S89_2_eq]; exact if_neg hlt, ?_⟩
      rw [hall, List.drop_of_length_le (by omega)]
      rfl) ((s, (), ()), ((s, 0), ())) ⟨0, rfl, by omega, by rw [List.drop_zero]⟩
  exact h1

theorem L89_spec (s : List UInt8) : L89 (s, ()) = some ((num s, ()), ()) := by
  show F89 Lg89_2 (s, ()) = _
  have h1 : Lg89_2 ((s, (), ()), (s, 0), ()) = _ := S89_spec (s := s)
  rw [F89_eq, h1]
  simp only [Option.bind_some]
  unfold num
  by_cases hd : s.all isd = true
  · rw [if_pos hd, hd]
    simp only [Sum.elim_inr]
    by_cases h0 : s = []
    · rw [if_neg (by simp [h0]), h0]
      rfl
    · have hl : 0 < s.length := List.length_pos_iff.2 h0
      rw [if_pos (by simpa using h0)]
      by_cases h4 : s = [48]
      · rw [if_pos (by rw [h4]; rfl), h4]
        rfl
      · rw [if_neg (by simpa using h4)]
        refine (if_pos (show (0 : Int) < (s.length : Int) by omega)).trans ?_
        have e1 : (s == []) = false := by simpa using h0
        have e2 : (s == [48]) = false := by simpa using h4
        rw [e1, e2]
        congr 3
        simp only [Bool.not_false, Bool.true_and, Bool.false_or]
        congr 1
        rw [Bool.eq_iff_iff, beq_iff_eq, beq_iff_eq]
        constructor
        · intro h
          exact UInt8.toNat_inj.1 (by have h : ((s.getD 0 0).toNat : Int) = 48 := h; show (s.getD 0 0).toNat = 48; omega)
        · intro h
          show ((s.getD 0 0).toNat : Int) = 48
          rw [h]
          rfl
  · rw [if_neg hd, Bool.eq_false_iff.2 hd]
    rfl

theorem dv_take_succ {s : List UInt8} {i : Nat} (h : i < s.length) : dv (s.take (i + 1)) = 10 * dv (s.take i) + ((s.getD i 0).toNat - 48) := by
  rw [List.take_succ_eq_append_getElem h, dv_snoc, List.getD_eq_getElem?_getD, List.getElem?_eq_getElem h]
  rfl

theorem dv_take_lt {s : List UInt8} (h : IsD s) (i : Nat) (hi : i ≤ 17) : dv (s.take i) < 100000000000000000 := by
  have h1 := dv_lt (h.take i)
  have h2 : 10 ^ (s.take i).length ≤ 10 ^ 17 := Nat.pow_le_pow_right (by decide) (by simp; omega)
  omega

theorem L56_spec (b : Bool) (e : Int) : L56 (b, e, ()) = some ((if b = true then e else 0, ()), ()) := by
  show F56 (b, e, ()) = _
  rw [F56_eq]
  cases b <;> rfl

/-! ### The program's Atoi -/
theorem S121_spec {d : List UInt8} (hd : IsD d) (hl : d.length ≤ 18) : limL S121_10 ((d, 0, d.map (fun b => (b.toNat : Int)), ((d.map (fun b => (b.toNat : Int))).length : Int), 0, ()), ()) = some ((d, (dv d : Int), ()), ()) := by
  obtain ⟨z, h1, rfl⟩ := limL_ind (f := S121_10) (fun x => d.length - x.1.2.2.2.2.1.toNat)
    (fun x => ∃ i : Nat, x = ((d, (dv (d.take i) : Int), d.map (fun b => (b.toNat : Int)), ((d.map (fun b => (b.toNat : Int))).length : Int), (i : Int), ()), ()) ∧ i ≤ d.length)
    (fun z => z = ((d, (dv d : Int), ()), ())) (by
    rintro x ⟨i, rfl, hi⟩
    rw [S121_10_eq]
    by_cases hlt : i < d.length
    · left
      have hg : (d.map (fun b => (b.toNat : Int))).getD i 0 = ((d.getD i 0).toNat : Int) := by
        rw [List.getD_eq_getElem?_getD, List.getElem?_map, List.getD_eq_getElem?_getD, List.getElem?_eq_getElem hlt]
        rfl
      have hc := hd.getD hlt
      have hlt8 := dv_take_lt hd i (by omega)
      have e1 : IntKind.u8.wrap (((d.getD i 0).toNat : Int) - 48) = (((d.getD i 0).toNat - 48 : Nat) : Int) := by rw [w8 (by omega) (by omega)]; omega
      have e3 : IntKind.i64.wrap ((dv (d.take i) : Int) * 10) = 10 * (dv (d.take i) : Int) := by rw [wi (by omega) (by omega)]; omega
      have e5 : IntKind.i64.wrap ((((d.getD i 0).toNat - 48 : Nat) : Int)) = (((d.getD i 0).toNat - 48 : Nat) : Int) := wi (by omega) (by omega)
      have e4 : IntKind.i64.wrap (10 * (dv (d.take i) : Int) + (((d.getD i 0).toNat - 48 : Nat) : Int)) = (dv (d.take (i + 1)) : Int) := by
        rw [dv_take_succ hlt, wi (by omega) (by omega)]; omega
      have e6 : IntKind.i64.wrap ((i : Int) + 1) = ((i + 1 : Nat) : Int) := by rw [wi (by omega) (by omega)]; omega
      rw [if_pos (decide_eq_true (by simp; omega)), if_pos (by omega), if_pos (by simp; omega), Int.toNat_natCast, hg, e1, if_neg (by rw [decide_eq_true_eq]; omega), e3, e5, e4, e6]
      refine ⟨_, rfl, ⟨i + 1, rfl, by omega⟩, by simp only [Int.toNat_natCast]; omega⟩
    · right
      refine ⟨_, if_neg (by simp; omega), ?_⟩
      rw [List.take_of_length_le (by omega)]) ((d, ((dv (d.take 0) : Nat) : Int), d.map (fun b => (b.toNat : Int)), ((d.map (fun b => (b.toNat : Int))).length : Int), ((0 : Nat) : Int), ()), ()) ⟨0, rfl, by omega⟩
  exact h1

theorem L121_spec {d : List UInt8} (hd : IsD d) (h0 : 0 < d.length) (hl : d.length ≤ 18) : L121 (d, ()) = some (((dv d : Int), true, ()), ()) := by
  show F121 Lg121_10 (d, ()) = _
  have hg := hd.getD h0
  have h1 : Lg121_10 ((d, 0, d.map (fun b => (b.toNat : Int)), ((d.map (fun b => (b.toNat : Int))).length : Int), 0, ()), ()) = _ := S121_spec hd hl
  rw [F121_eq, if_pos (decide_eq_true (by omega)), if_pos (decide_eq_true (by omega)), if_pos (by omega), if_neg (by rw [beq_iff_eq]; omega), if_pos (by omega), if_neg (by rw [beq_iff_eq]; omega), if_pos (by omega), h1]
  simp only [Option.bind_some]
  refine (if_pos (show (0 : Int) < (d.length : Int) by omega)).trans ?_
  exact if_neg (by rw [beq_iff_eq]; show ¬ ((d.getD 0 0).toNat : Int) = 45; omega)

theorem L90_spec {d : List UInt8} (hd : IsD d) (h0 : 0 < d.length) (hl : d.length ≤ 18) : L90 (d, ()) = some (((dv d : Int), true, ()), ()) := by
  show F90 L121 (d, ()) = _
  rw [F90_eq, L121_spec hd h0 hl]
  rfl
end Go.Proofs.Rf
/- Names of types, exact integers: what both texts check. -/
namespace Go.Proofs.Rf
open Go Go.RowKit D

/-- A type's name: signed, width, error. -/
def tyS (t : List UInt8) : Bool := t.getD 0 0 == 105
def tyN (t : List UInt8) : Nat := dv (t.drop 1)
def tyOK (t : List UInt8) : Bool := (t.getD 0 0 == 117 || t.getD 0 0 == 105) && num (t.drop 1) && decide (t.length ≤ 4)
def tyErr (t : List UInt8) : Int := if tyOK t = true then (if 64 < tyN t ∨ (tyS t = true ∧ tyN t = 0) then 3 else 0) else 6

theorem tyErr_6 {t : List UInt8} (h : ¬ tyOK t = true) : tyErr t = 6 := if_neg h
theorem tyErr_3 {t : List UInt8} (h : tyOK t = true) (k : 64 < tyN t ∨ (tyS t = true ∧ tyN t = 0)) : tyErr t = 3 := by unfold tyErr; rw [if_pos h, if_pos k]
theorem tyErr_0 {t : List UInt8} (h : tyOK t = true) (k : ¬ (64 < tyN t ∨ (tyS t = true ∧ tyN t = 0))) : tyErr t = 0 := by unfold tyErr; rw [if_pos h, if_neg k]

theorem tyOK_intro {t : List UInt8} (h1 : (t.getD 0 0 == 117 || t.getD 0 0 == 105) = true) (h2 : num (t.drop 1) = true) (h3 : t.length ≤ 4) : tyOK t = true := by
  unfold tyOK
  rw [h1, h2, decide_eq_true h3]
  rfl
theorem tyOK_no1 {t : List UInt8} (h : ¬ (t.getD 0 0 == 117 || t.getD 0 0 == 105) = true) : ¬ tyOK t = true := by
  unfold tyOK
  rw [Bool.eq_false_iff.2 h]
  simp
theorem tyOK_no2 {t : List UInt8} (h : ¬ num (t.drop 1) = true) : ¬ tyOK t = true := by
  unfold tyOK
  rw [Bool.eq_false_iff.2 h, Bool.and_false, Bool.false_and]
  simp
theorem tyOK_no3 {t : List UInt8} (h : ¬ t.length ≤ 4) : ¬ tyOK t = true := by
  unfold tyOK
  rw [decide_eq_false h, Bool.and_false]
  simp

theorem take_one8 {t : List UInt8} (h : 0 < t.length) : t.take 1 = [t.getD 0 0] := by
  cases t with
  | nil => simp at h
  | cons c s => rfl

theorem num_pos {d : List UInt8} (h : num d = true) : IsD d ∧ 0 < d.length := ⟨(num_iff.1 h).1, List.length_pos_iff.2 (num_iff.1 h).2.1⟩

theorem lookS (c : UInt8) : lookM Ty.str Ty.bool [([(117 : UInt8)], false), ([(105 : UInt8)], true)] [c] = if (c == 117) = true then some false else if (c == 105) = true then some true else none := by
  have e1 : Ty.str.keq [c] [117] = (c == 117) := by
    show ([c] == [117]) = _
    simp
  have e2 : Ty.str.keq [c] [105] = (c == 105) := by
    show ([c] == [105]) = _
    simp
  show (if Ty.str.keq [c] [117] = true then some false else if Ty.str.keq [c] [105] = true then some true else none) = _
  rw [e1, e2]

theorem L42_spec (t : List UInt8) : L42 (t, ()) = some ((if tyErr t = 0 then ((((tyN t : Int), tyS t), t), 0, ()) else (((0, false), []), tyErr t, ())), ()) := by
  show F42 L89 L90 (t, ()) = _
  rw [F42_eq]
  by_cases h0 : t = []
  · subst h0
    rw [if_neg (by simp)]
    rfl
  · have hl : 0 < t.length := List.length_pos_iff.2 h0
    rw [if_pos (by simpa using h0), if_pos (by omega), if_pos (by omega), if_pos (by omega), take_one8 hl, lookS]
    by_cases hk : (t.getD 0 0 == 117 || t.getD 0 0 == 105) = true
    · have hlk : (if (t.getD 0 0 == 117) = true then some false else if (t.getD 0 0 == 105) = true then some true else none) = some (tyS t) := by
        unfold tyS
        by_cases h1 : t.getD 0 0 = 117
        · rw [h1]; rfl
        · have e1 : (t.getD 0 0 == 117) = false := by simpa using h1
          rw [e1, Bool.false_or] at hk
          rw [e1, hk]; rfl
      rw [hlk, L89_spec]
      refine (if_neg Bool.false_ne_true).trans ?_
      simp only [Option.bind_some]
      by_cases hn : num (t.drop 1) = true
      · obtain ⟨hd, hp⟩ := num_pos hn
        rw [if_neg (by rw [hn]; decide)]
        by_cases h4 : t.length ≤ 4
        · have hok := tyOK_intro hk hn h4
          rw [if_neg (by rw [decide_eq_true_eq, List.length_drop]; omega), L90_spec hd hp (by rw [List.length_drop]; omega)]
          simp only [Option.bind_some]
          have e : dv (t.drop 1) = tyN t := rfl
          rw [e]
          by_cases h64 : 64 < tyN t
          · refine (if_pos (decide_eq_true (show ((tyN t : Nat) : Int) > 64 by omega))).trans ?_
            rw [tyErr_3 hok (.inl h64)]
            rfl
          · refine (if_neg (show ¬ decide (((tyN t : Nat) : Int) > 64) = true by rw [decide_eq_true_eq]; omega)).trans ?_
            by_cases hc : tyS t = true ∧ tyN t = 0
            · rw [tyErr_3 hok (.inr hc)]
              refine (if_pos ?_).trans rfl
              rw [hc.1, hc.2]
              rfl
            · rw [tyErr_0 hok (fun h => h.elim h64 hc)]
              refine (if_neg ?_).trans rfl
              intro h
              apply hc
              rw [Bool.and_eq_true] at h
              have h1 : ((tyN t : Nat) : Int) = 0 := beq_iff_eq.1 h.1
              refine ⟨?_, by omega⟩
              have h2 := h.2
              revert h2
              show (((tyS t == true) && true) = true) → _
              cases tyS t <;> simp
        · rw [if_pos (by rw [decide_eq_true_eq, List.length_drop]; omega), tyErr_6 (tyOK_no3 h4)]
          rfl
      · rw [if_pos (by simpa using hn), tyErr_6 (tyOK_no2 hn)]
        rfl
    · have hlk : (if (t.getD 0 0 == 117) = true then some false else if (t.getD 0 0 == 105) = true then some true else (none : Option Bool)) = none := by
        rw [Bool.not_eq_true, Bool.or_eq_false_iff] at hk
        rw [hk.1, hk.2]
        rfl
      rw [hlk]
      refine (if_pos rfl).trans ?_
      rw [tyErr_6 (tyOK_no1 hk)]
      rfl
end Go.Proofs.Rf
/- Exact integers: what both texts check. -/
namespace Go.Proofs.Rf
open Go Go.RowKit D

/-- The first error. -/
def fstE : List Int → Int
  | [] => 0
  | x :: r => if x = 0 then fstE r else x

theorem fstE_drop {l : List Int} {i : Nat} (h : i < l.length) : fstE (l.drop i) = if l.getD i 0 = 0 then fstE (l.drop (i + 1)) else l.getD i 0 := by
  rw [drop_at h]
  rfl

theorem L55_spec {l : List Int} (hl : l.length < 1000) : L55 (l, ()) = some ((fstE l, ()), ()) := by
  obtain ⟨z, h1, hz⟩ := limL_ind (f := S55_2) (fun x => l.length - x.1.2.2.1.toNat)
    (fun x => ∃ i : Nat, x = ((l, (l.length : Int), (i : Int), ()), ()) ∧ i ≤ l.length ∧ fstE l = fstE (l.drop i))
    (fun z => (z = .inl ((fstE l, ()), ())) ∨ (z = .inr ((), ()) ∧ fstE l = 0)) (by
    rintro x ⟨i, rfl, hi, he⟩
    rw [S55_2_eq]
    by_cases hlt : i < l.length
    · rw [fstE_drop hlt] at he
      rw [if_pos (decide_eq_true (by omega)), if_pos (by omega), if_pos (by omega), Int.toNat_natCast]
      by_cases h0 : l.getD i 0 = 0
      · left
        have e6 : IntKind.i64.wrap ((i : Int) + 1) = ((i + 1 : Nat) : Int) := by rw [wi (by omega) (by omega)]; omega
        rw [if_neg (by rw [h0]; decide), e6]
        rw [if_pos h0] at he
        exact ⟨_, rfl, ⟨i + 1, rfl, by omega, he⟩, by simp only [Int.toNat_natCast]; omega⟩
      · right
        have h0' : (!l.getD i 0 == 0) = true := by rw [Bool.not_eq_true', beq_eq_false_iff_ne]; exact h0
        rw [if_pos h0']
        rw [if_neg h0] at he
        exact ⟨_, rfl, .inl (by rw [he])⟩
    · right
      refine ⟨_, if_neg (by rw [decide_eq_true_eq]; omega), .inr ⟨rfl, ?_⟩⟩
      rw [he, List.drop_of_length_le (by omega)]
      rfl) ((l, (l.length : Int), ((0 : Nat) : Int), ()), ()) ⟨0, rfl, by omega, by rw [List.drop_zero]⟩
  show F55 Lg55_2 (l, ()) = _
  have h1 : Lg55_2 ((l, (l.length : Int), 0, ()), ()) = _ := h1
  rw [F55_eq, h1]
  rcases hz with rfl | ⟨rfl, h⟩
  · rfl
  · rw [h]; rfl

/-! ### Exact integers -/
def isNeg (s : List UInt8) : Bool := s.getD 0 0 == 45
def body (s : List UInt8) : List UInt8 := if isNeg s = true then s.drop 1 else s
def ciErr (s : List UInt8) : Int := if num (body s) = true ∧ ¬ s = [45, 48] then (if 100 < (body s).length then 4 else 0) else 1

theorem L88_spec (s : List UInt8) : L88 (s, [45], ()) = some ((body s, isNeg s, ()), ()) := by
  show F88 L120 (s, [45], ()) = _
  have hlen : (([45] : List UInt8).length : Int) = 1 := rfl
  have h100 : L100 (s, [45], ()) = some ((isNeg s, ()), ()) := by
    show F100 (s, [45], ()) = _
    rw [F100_eq, hlen]
    unfold isNeg
    by_cases h0 : s = []
    · subst h0
      rw [if_neg (by decide)]
      rfl
    · have hl : 0 < s.length := List.length_pos_iff.2 h0
      rw [if_pos (by rw [decide_eq_true_eq]; omega), if_pos (by omega), show (1 : Int).toNat = 1 from rfl, take_one8 hl]
      congr 3
      simp
  have h120 : L120 (s, [45], ()) = some ((body s, isNeg s, ()), ()) := by
    show F120 L100 (s, [45], ()) = _
    rw [F120_eq, h100]
    simp only [Option.bind_some]
    unfold body
    by_cases hn : isNeg s = true
    · have hl : 0 < s.length := by
        rcases Nat.eq_zero_or_pos s.length with h | h
        · rw [List.eq_nil_of_length_eq_zero h] at hn
          exact absurd hn (by decide)
        · exact h
      rw [hn, hlen, if_neg (by decide), if_pos (by omega), if_pos (by omega)]
      rfl
    · rw [Bool.eq_false_iff.2 hn]
      rfl
  rw [F88_eq, h120]
  rfl

theorem ciErr_1 {s : List UInt8} (h : ¬ (num (body s) = true ∧ ¬ s = [45, 48])) : ciErr s = 1 := if_neg h
theorem ciErr_n {s : List UInt8} (h : num (body s) = true ∧ ¬ s = [45, 48]) : ciErr s = if 100 < (body s).length then 4 else 0 := if_pos h

theorem fst2 (a b : Int) : fstE [a, b] = if a = 0 then b else a := by
  show (if a = 0 then (if b = 0 then 0 else b) else a) = _
  by_cases h : a = 0
  · rw [if_pos h, if_pos h]; split <;> omega
  · rw [if_neg h, if_neg h]

theorem L55_two (a b : Int) : L55 ([a, b], ()) = some ((if a = 0 then b else a, ()), ()) := by
  rw [L55_spec (by simp), fst2]

theorem L41_spec (s : List UInt8) : L41 (s, ()) = some ((ciErr s, ()), ()) := by
  show F41 L55 L56 L88 L89 (s, ()) = _
  rw [F41_eq, L88_spec]
  simp only [Option.bind_some]
  rw [L89_spec]
  simp only [Option.bind_some]
  have h56 : L56 (decide (((body s).length : Int) > 100), 4, ()) = some ((if 100 < (body s).length then 4 else 0, ()), ()) := by
    rw [L56_spec]
    by_cases h : 100 < (body s).length
    · rw [if_pos h, if_pos (show decide (((body s).length : Int) > 100) = true from decide_eq_true (by omega))]
    · rw [if_neg h, if_neg (show ¬ decide (((body s).length : Int) > 100) = true by rw [decide_eq_true_eq]; omega)]
  have hgo : ∀ (c : Bool), ((L56 (c, 1, ())).bind fun y_2 => (L56 (decide (((body s).length : Int) > 100), 4, ())).bind fun y => (L55 ([y_2.1.1, y.1.1], ())).bind fun y => (some ((y.1.1, ()), ()) : Option rs41.den)) = some ((if c = true then 1 else if 100 < (body s).length then 4 else 0, ()), ()) := by
    intro c
    rw [L56_spec, h56]
    simp only [Option.bind_some]
    rw [L55_two]
    cases c <;> rfl
  by_cases hn : num (body s) = true
  · rw [hn, if_neg (show ¬ (!true) = true by decide)]
    by_cases hneg : isNeg s = true
    · rw [if_pos hneg]
      have hb : ((body s == [48]) = true) ↔ s = [45, 48] := by
        unfold body
        rw [if_pos hneg, beq_iff_eq]
        unfold isNeg at hneg
        cases s with
        | nil => exact absurd hneg (by decide)
        | cons c r =>
          have : c = 45 := by simpa using hneg
          subst this
          simp
      refine (hgo _).trans ?_
      by_cases h0 : s = [45, 48]
      · rw [hb.2 h0, ciErr_1 (fun h => h.2 h0)]
        rfl
      · rw [Bool.eq_false_iff.2 (fun h => h0 (hb.1 h)), ciErr_n ⟨hn, h0⟩]
        rfl
    · rw [if_neg hneg]
      refine (hgo _).trans ?_
      rw [ciErr_n ⟨hn, by rintro rfl; exact hneg rfl⟩]
      rfl
  · rw [Bool.eq_false_iff.2 hn, if_pos (show (!false) = true from rfl)]
    refine (hgo _).trans ?_
    rw [ciErr_1 (fun h => hn h.1)]
    rfl

/-- A right exact integer is the string of its value. -/
theorem ci_str {s : List UInt8} (h : ciErr s = 0) : s = str (sv s) ∧ (dec (sv s).natAbs).length ≤ 100 := by
  unfold ciErr at h
  by_cases hc : num (body s) = true ∧ ¬ s = [45, 48]
  · rw [if_pos hc] at h
    have hlen : (body s).length ≤ 100 := by
      rcases Nat.lt_or_ge 100 (body s).length with q | q
      · rw [if_pos q] at h; exact absurd h (by decide)
      · exact q
    obtain ⟨hD, hZ⟩ := num_iff.1 hc.1
    have hdec := dec_dv hD hZ
    unfold body at hdec hlen hZ hD
    by_cases hn : isNeg s = true
    · rw [if_pos hn] at hdec hlen hZ hD
      have hs : s = 45 :: s.drop 1 := by
        unfold isNeg at hn
        cases s with
        | nil => exact absurd hn (by decide)
        | cons c r =>
          have : c = 45 := by simpa using hn
          subst this
          rfl
      have hpos : dv (s.drop 1) ≠ 0 := by
        intro e
        rw [e, dec_small (by decide)] at hdec
        apply hc.2
        rw [hs, ← hdec]
        rfl
      have hv : sv s = -(dv (s.drop 1) : Int) := by
        unfold sv
        rw [if_pos (by rw [hs]; rfl)]
      have hv2 : (sv s).natAbs = dv (s.drop 1) := by rw [hv]; omega
      refine ⟨?_, by rw [hv2, hdec]; exact hlen⟩
      unfold str
      rw [if_pos (by rw [hv]; omega), hv2, hdec]
      exact hs
    · rw [if_neg hn] at hdec hlen hZ hD
      have hv : sv s = (dv s : Int) := by
        unfold sv
        rw [if_neg]
        intro e
        apply hn
        unfold isNeg
        cases s with
        | nil => exact absurd e (by decide)
        | cons c r =>
          have : c = 45 := by simpa using e
          subst this
          rfl
      have hv2 : (sv s).natAbs = dv s := by rw [hv]; omega
      refine ⟨?_, by rw [hv2, hdec]; exact hlen⟩
      unfold str
      rw [if_neg (by rw [hv]; omega), hv2, hdec]
  · rw [if_neg hc] at h
    exact absurd h (by decide)
end Go.Proofs.Rf
/- The library's FormatUint in base ten. -/
namespace Go.Proofs.Rf
open Go Go.RowKit D

/-- What the stores keep: n digits in all, nd places still to be filled, v is left. -/
structure FI (n u nd v : Nat) (r : List Int) : Prop where
  len : r.length = 24
  n24 : n ≤ 24
  le : nd ≤ n
  rest : v = u / 10 ^ (n - nd)
  small : v < 10 ^ nd
  done : ∀ t, nd ≤ t → t < n → r.getD t 0 = 48 + ((u / 10 ^ (n - 1 - t) % 10 : Nat) : Int)

theorem FI.step2 {n u k v : Nat} {r : List Int} (h : FI n u (k + 2) v r) : FI n u k (v / 100) ((r.set (k + 1) (48 + ((v % 10 : Nat) : Int))).set k (48 + ((v / 10 % 10 : Nat) : Int))) := by
  have hl := h.len
  have hle := h.le
  have h24 := h.n24
  refine ⟨by rw [List.length_set, List.length_set]; exact hl, h24, by omega, ?_, ?_, fun t h1 h2 => ?_⟩
  · rw [h.rest, Nat.div_div_eq_div_mul, show n - k = n - (k + 2) + 2 by omega, Nat.pow_add]
  · have hs := h.small
    rw [Nat.pow_add] at hs
    exact Nat.div_lt_of_lt_mul (by rw [Nat.mul_comm]; exact hs)
  · rw [getD_set, getD_set, List.length_set]
    by_cases e2 : k = t
    · rw [if_pos ⟨e2, by omega⟩, ← e2, show n - 1 - k = n - (k + 2) + 1 by omega, Nat.pow_succ, ← Nat.div_div_eq_div_mul, ← h.rest]
    · rw [if_neg (fun q => e2 q.1)]
      by_cases e1 : k + 1 = t
      · rw [if_pos ⟨e1, by omega⟩, ← e1, show n - 1 - (k + 1) = n - (k + 2) by omega, ← h.rest]
      · rw [if_neg (fun q => e1 q.1)]
        exact h.done t (by omega) h2

theorem FI.step1 {n u v : Nat} {r : List Int} (h : FI n u 1 v r) : FI n u 0 0 (r.set 0 (48 + (v : Int))) := by
  have hl := h.len
  have hle := h.le
  have h24 := h.n24
  have hv : v < 10 := by simpa using h.small
  refine ⟨by rw [List.length_set]; exact hl, h24, by omega, ?_, by decide, fun t h1 h2 => ?_⟩
  · have e : u / 10 ^ (n - 0) = v / 10 := by rw [h.rest, Nat.div_div_eq_div_mul, show n - 0 = n - 1 + 1 by omega, Nat.pow_succ]
    rw [e]
    omega
  · rw [getD_set]
    by_cases e : 0 = t
    · rw [if_pos ⟨e, by omega⟩, ← e, show n - 1 - 0 = n - 1 by omega, ← h.rest, Nat.mod_eq_of_lt hv]
    · rw [if_neg (fun q => e q.1)]
      exact h.done t (by omega) h2

theorem FI.end {n u v : Nat} {r : List Int} (hn : n = Lib.nDigits u) (h : FI n u 0 v r) : (r.take n).map (fun x => UInt8.ofNat x.toNat) = dec u := by
  have hl := h.len
  have h24 := h.n24
  rw [dec, Lib.decDigits_eq, ← hn]
  refine List.ext_getElem (by simp; omega) fun t h1 h2 => ?_
  have ht : t < n := by simpa using h2
  rw [List.getElem_map, List.getElem_take, List.getElem_map, List.getElem_range]
  have h3 := h.done t (by omega) ht
  rw [List.getD_eq_getElem?_getD, List.getElem?_eq_getElem (by omega)] at h3
  have h3 : r[t] = 48 + ((u / 10 ^ (n - 1 - t) % 10 : Nat) : Int) := h3
  rw [h3]
  unfold Lib.dg
  congr 1

theorem tb_all : ∀ p : Fin 100, (tbEQ01_1.getD (p.val * 2) 0).toNat = 48 + p.val / 10 ∧ (tbEQ01_1.getD (p.val * 2 + 1) 0).toNat = 48 + p.val % 10 := by decide +kernel
theorem tb_hi (p : Nat) (h : p < 100) : (((tbEQ01_1.getD (p * 2) 0).toNat : Nat) : Int) = 48 + ((p / 10 : Nat) : Int) := by rw [(tb_all ⟨p, h⟩).1]; simp
theorem tb_lo (p : Nat) (h : p < 100) : (((tbEQ01_1.getD (p * 2 + 1) 0).toNat : Nat) : Int) = 48 + ((p % 10 : Nat) : Int) := by rw [(tb_all ⟨p, h⟩).2]; simp

set_option maxHeartbeats 4000000 in
theorem S128z_round {n v k u : Nat} {r : List Int} (h : FI n u (k + 8) v r) (hv : v < 18446744073709551616) :
    ∃ r', S128z_1 ((n, (v : Int), ((k + 8 : Nat) : Int), ()), (r, ())) = some (.inl ((n, ((v / 100000000 : Nat) : Int), (k : Int), ()), (r', ()))) ∧ FI n u k (v / 100000000) r' := by
  have hl := h.len
  have hle := h.le
  have h24 := h.n24
  have h1 := h.step2.step2.step2.step2
  rw [show v / 100 / 100 / 100 / 100 = v / 100000000 by omega] at h1
  refine ⟨_, ?_, h1⟩
  rw [S128z_1_eq]
  refine (if_pos (by rw [decide_eq_true_eq]; omega)).trans ?_
  obtain ⟨X, hX⟩ : ∃ X, X = v % 100000000 := ⟨_, rfl⟩
  obtain ⟨L, hL⟩ : ∃ L, L = X % 10000 := ⟨_, rfl⟩
  obtain ⟨H, hH⟩ : ∃ H, H = X / 10000 := ⟨_, rfl⟩
  obtain ⟨a, ha⟩ : ∃ a, a = L % 100 := ⟨_, rfl⟩
  obtain ⟨b, hb⟩ : ∃ b, b = L / 100 := ⟨_, rfl⟩
  obtain ⟨c, hc⟩ : ∃ c, c = H % 100 := ⟨_, rfl⟩
  obtain ⟨d, hd⟩ : ∃ d, d = H / 100 := ⟨_, rfl⟩
  have eX : IntKind.u32.wrap ((v : Int).tmod 100000000) = (X : Int) := by rw [Int.tmod_eq_emod_of_nonneg (by omega), w32 (by omega) (by omega)]; omega
  have eL : (X : Int).tmod 10000 = (L : Int) := by rw [Int.tmod_eq_emod_of_nonneg (by omega)]; omega
  have eH : IntKind.u32.wrap ((X : Int).tdiv 10000) = (H : Int) := by rw [Int.tdiv_eq_ediv_of_nonneg (by omega), w32 (by omega) (by omega)]; omega
  have ea : IntKind.u32.wrap ((L : Int).tmod 100 * 2) = ((a * 2 : Nat) : Int) := by rw [Int.tmod_eq_emod_of_nonneg (by omega), w32 (by omega) (by omega)]; omega
  have eb0 : IntKind.u32.wrap ((L : Int).tdiv 100) = (b : Int) := by rw [Int.tdiv_eq_ediv_of_nonneg (by omega), w32 (by omega) (by omega)]; omega
  have eb : IntKind.u32.wrap ((b : Int) * 2) = ((b * 2 : Nat) : Int) := by rw [w32 (by omega) (by omega)]; omega
  have ec : IntKind.u32.wrap ((H : Int).tmod 100 * 2) = ((c * 2 : Nat) : Int) := by rw [Int.tmod_eq_emod_of_nonneg (by omega), w32 (by omega) (by omega)]; omega
  have ed0 : IntKind.u32.wrap ((H : Int).tdiv 100) = (d : Int) := by rw [Int.tdiv_eq_ediv_of_nonneg (by omega), w32 (by omega) (by omega)]; omega
  have ed : IntKind.u32.wrap ((d : Int) * 2) = ((d * 2 : Nat) : Int) := by rw [w32 (by omega) (by omega)]; omega
  have ep : ∀ p : Nat, p < 1000 → IntKind.u32.wrap (((p * 2 : Nat) : Int) + 1) = ((p * 2 + 1 : Nat) : Int) := by
    intro p hp
    rw [w32 (by omega) (by omega)]; omega
  have en : ∀ j : Nat, j ≤ 8 → IntKind.i64.wrap (((k + 8 : Nat) : Int) - (j : Int)) = ((k + (8 - j) : Nat) : Int) := by
    intro j hj
    rw [wi (by omega) (by omega)]; omega
  have en1 : IntKind.i64.wrap (((k + 8 : Nat) : Int) - 1) = ((k + 7 : Nat) : Int) := en 1 (by omega)
  have en2 : IntKind.i64.wrap (((k + 8 : Nat) : Int) - 2) = ((k + 6 : Nat) : Int) := en 2 (by omega)
  have en3 : IntKind.i64.wrap (((k + 8 : Nat) : Int) - 3) = ((k + 5 : Nat) : Int) := en 3 (by omega)
  have en4 : IntKind.i64.wrap (((k + 8 : Nat) : Int) - 4) = ((k + 4 : Nat) : Int) := en 4 (by omega)
  have en5 : IntKind.i64.wrap (((k + 8 : Nat) : Int) - 5) = ((k + 3 : Nat) : Int) := en 5 (by omega)
  have en6 : IntKind.i64.wrap (((k + 8 : Nat) : Int) - 6) = ((k + 2 : Nat) : Int) := en 6 (by omega)
  have en7 : IntKind.i64.wrap (((k + 8 : Nat) : Int) - 7) = ((k + 1 : Nat) : Int) := en 7 (by omega)
  have en8 : IntKind.i64.wrap (((k + 8 : Nat) : Int) - 8) = (k : Int) := en 8 (by omega)
  have ev : IntKind.u64.wrap ((v : Int).tdiv 100000000) = ((v / 100000000 : Nat) : Int) := by rw [Int.tdiv_eq_ediv_of_nonneg (by omega), w64 (by omega) (by omega)]; omega
  rw [eX, eL, eH, ea, eb0, eb, ec, ed0, ed, ep a (by omega), ep b (by omega), ep c (by omega), ep d (by omega), en1, en2, en3, en4, en5, en6, en7, en8, ev]
  repeat refine (if_pos (by omega)).trans ?_
  simp only [Int.toNat_natCast, Nat.zero_add]
  rw [tb_lo a (by omega), tb_hi a (by omega), tb_lo b (by omega), tb_hi b (by omega), tb_lo c (by omega), tb_hi c (by omega), tb_lo d (by omega), tb_hi d (by omega)]
  rw [show a % 10 = v % 10 by omega, show a / 10 = v / 10 % 10 by omega, show b % 10 = v / 100 % 10 by omega, show b / 10 = v / 100 / 10 % 10 by omega, show c % 10 = v / 100 / 100 % 10 by omega, show c / 10 = v / 100 / 100 / 10 % 10 by omega, show d % 10 = v / 100 / 100 / 100 % 10 by omega, show d / 10 = v / 100 / 100 / 100 / 10 % 10 by omega]
end Go.Proofs.Rf
/- The library's FormatUint in base ten: the last digits. -/
namespace Go.Proofs.Rf
open Go Go.RowKit D

set_option maxHeartbeats 4000000 in
theorem S128z_loop : ∀ (f n u m v : Nat) (r : List Int), m ≤ f → FI n u m v r → v < 18446744073709551616 → ∃ (m' v' : Nat) (r' : List Int), Lg128z_1 ((n, (v : Int), (m : Int), ()), (r, ())) = some ((n, (v' : Int), (m' : Int), ()), (r', ())) ∧ m' < 8 ∧ FI n u m' v' r' := by
  intro f
  induction f with
  | zero =>
    intro n u m v r hm h hv
    obtain rfl : m = 0 := by omega
    refine ⟨0, v, r, ?_, by decide, h⟩
    show limL S128z_1 _ = _
    rw [limL_eq, S128z_1_eq]
    rfl
  | succ f ih =>
    intro n u m v r hm h hv
    by_cases h8 : 8 ≤ m
    · obtain ⟨k, rfl⟩ : ∃ k, m = k + 8 := ⟨m - 8, by omega⟩
      obtain ⟨r', h1, h2⟩ := S128z_round h hv
      obtain ⟨m', v', r'', h3, h4, h5⟩ := ih n u k _ r' (by omega) h2 (by omega)
      refine ⟨m', v', r'', ?_, h4, h5⟩
      show limL S128z_1 _ = _
      rw [limL_eq, h1]
      exact h3
    · refine ⟨m, v, r, ?_, by omega, h⟩
      show limL S128z_1 _ = _
      rw [limL_eq, S128z_1_eq, if_neg (by rw [decide_eq_true_eq]; omega)]

set_option maxHeartbeats 4000000 in
theorem fin128 {n u v' : Nat} {r r' : List Int} (hlr : r.length = 24) (h' : FI n u 0 v' r') {q : Option rs128z.den} (hq : q = some ((n, ()), (r', ()))) : (q.bind fun z => if (r.length.beq (List.length z.2.1) && true) = true then some z else none) = some ((n, ()), (r', ())) := by
  rw [hq]
  refine if_pos ?_
  rw [hlr]
  show ((Nat.beq 24 r'.length) && true) = true
  rw [h'.len]
  rfl

theorem FI.lt7 {n u m v : Nat} {r : List Int} (h : FI n u m v r) (h8 : m < 8) : v < 10000000 :=
  Nat.lt_of_lt_of_le h.small (by have := Nat.pow_le_pow_right (n := 10) (by decide) (show m ≤ 7 by omega); simpa using this)

set_option maxHeartbeats 4000000 in
theorem L128z_spec {n u : Nat} {r : List Int} (h0 : FI n u n u r) (hu : u < 18446744073709551616) : ∃ (v : Nat) (r' : List Int), L128z ((n, (u : Int), ()), (r, ())) = some ((n, ()), (r', ())) ∧ FI n u 0 v r' := by
  obtain ⟨m, v, r1, hloop, hm, h⟩ := S128z_loop n n u n u r (Nat.le_refl _) h0 hu
  have hlr := h0.len
  have hl := h.len
  have hle := h.le
  have h24 := h.n24
  have hv := h.lt7 hm
  have ex : IntKind.u32.wrap (v : Int) = (v : Int) := w32 (by omega) (by omega)
  have ep : ∀ p : Nat, p < 1000 → IntKind.u32.wrap (((p * 2 : Nat) : Int) + 1) = ((p * 2 + 1 : Nat) : Int) := by
    intro p hp
    rw [w32 (by omega) (by omega)]; omega
  have e48 : ∀ p : Nat, p < 10 → IntKind.u8.wrap (IntKind.u32.wrap (48 + (p : Int))) = 48 + (p : Int) := by
    intro p hp
    rw [w32 (by omega) (by omega), w8 (by omega) (by omega)]
  show ∃ (v : Nat) (r' : List Int), F128z Lg128z_1 ((n, (u : Int), ()), (r, ())) = some ((n, ()), (r', ())) ∧ FI n u 0 v r'
  rw [F128z_eq, hloop]
  simp only [Option.bind_some, ex]
  by_cases h4 : 4 ≤ m
  · obtain ⟨k, rfl⟩ : ∃ k, m = k + 4 := ⟨m - 4, by omega⟩
    obtain ⟨L, hL⟩ : ∃ L, L = v % 10000 := ⟨_, rfl⟩
    obtain ⟨H, hH⟩ : ∃ H, H = v / 10000 := ⟨_, rfl⟩
    obtain ⟨a, ha⟩ : ∃ a, a = L % 100 := ⟨_, rfl⟩
    obtain ⟨b, hbb⟩ : ∃ b, b = L / 100 := ⟨_, rfl⟩
    obtain ⟨c, hc⟩ : ∃ c, c = H % 100 := ⟨_, rfl⟩
    obtain ⟨d, hd⟩ : ∃ d, d = H / 100 := ⟨_, rfl⟩
    have h1 := h.step2.step2
    have hsm := h1.small
    rw [show v / 100 / 100 = H by omega] at h1 hsm
    have eL : (v : Int).tmod 10000 = (L : Int) := by rw [Int.tmod_eq_emod_of_nonneg (by omega)]; omega
    have eH : IntKind.u32.wrap ((v : Int).tdiv 10000) = (H : Int) := by rw [Int.tdiv_eq_ediv_of_nonneg (by omega), w32 (by omega) (by omega)]; omega
    have ea : IntKind.u32.wrap ((L : Int).tmod 100 * 2) = ((a * 2 : Nat) : Int) := by rw [Int.tmod_eq_emod_of_nonneg (by omega), w32 (by omega) (by omega)]; omega
    have eb0 : IntKind.u32.wrap ((L : Int).tdiv 100) = (b : Int) := by rw [Int.tdiv_eq_ediv_of_nonneg (by omega), w32 (by omega) (by omega)]; omega
    have eb : IntKind.u32.wrap ((b : Int) * 2) = ((b * 2 : Nat) : Int) := by rw [w32 (by omega) (by omega)]; omega
    have ec : IntKind.u32.wrap ((H : Int).tmod 100 * 2) = ((c * 2 : Nat) : Int) := by rw [Int.tmod_eq_emod_of_nonneg (by omega), w32 (by omega) (by omega)]; omega
    have ed : IntKind.u32.wrap ((H : Int).tdiv 100) = (d : Int) := by rw [Int.tdiv_eq_ediv_of_nonneg (by omega), w32 (by omega) (by omega)]; omega
    have en1 : IntKind.i64.wrap (((k + 4 : Nat) : Int) - 1) = ((k + 3 : Nat) : Int) := by rw [wi (by omega) (by omega)]; omega
    have en2 : IntKind.i64.wrap (((k + 4 : Nat) : Int) - 2) = ((k + 2 : Nat) : Int) := by rw [wi (by omega) (by omega)]; omega
    have en3 : IntKind.i64.wrap (((k + 4 : Nat) : Int) - 3) = ((k + 1 : Nat) : Int) := by rw [wi (by omega) (by omega)]; omega
    have en4 : IntKind.i64.wrap (((k + 4 : Nat) : Int) - 4) = (k : Int) := by rw [wi (by omega) (by omega)]; omega
    rw [eL, eH, ea, eb0, eb, ec, ed, ep a (by omega), ep b (by omega), ep c (by omega), en1, en2, en3, en4]
    by_cases h2 : 2 ≤ k
    · obtain ⟨j, rfl⟩ : ∃ j, k = j + 2 := ⟨k - 2, by omega⟩
      have h2' := h1.step2
      have hsm := h2'.small
      have em1 : IntKind.i64.wrap (((j + 2 : Nat) : Int) - 1) = ((j + 1 : Nat) : Int) := by rw [wi (by omega) (by omega)]; omega
      have em2 : IntKind.i64.wrap (((j + 2 : Nat) : Int) - 2) = (j : Int) := by rw [wi (by omega) (by omega)]; omega
      rw [em1, em2]
      by_cases h3 : 0 < j
      · obtain rfl : j = 1 := by omega
        have h3' := h2'.step1
        refine ⟨_, _, ?_, h3'⟩
        refine fin128 hlr h3' ?_
        refine (if_pos (decide_eq_true (show ((1 + 2 + 4 : Nat) : Int) ≥ 4 by decide))).trans ?_
        repeat refine (if_pos (by omega)).trans ?_
        refine (if_pos (decide_eq_true (by decide))).trans ?_
        repeat refine (if_pos (by omega)).trans ?_
        refine (if_pos (decide_eq_true (by decide))).trans ?_
        refine (if_pos (by omega)).trans ?_
        simp only [Int.toNat_natCast, Nat.zero_add]
        rw [e48 d (by omega), tb_lo a (by omega), tb_hi a (by omega), tb_lo b (by omega), tb_hi b (by omega), tb_lo c (by omega), tb_hi c (by omega)]
        rw [show a % 10 = v % 10 by omega, show a / 10 = v / 10 % 10 by omega, show b % 10 = v / 100 % 10 by omega, show b / 10 = v / 100 / 10 % 10 by omega, show c % 10 = H % 10 by omega, show c / 10 = H / 10 % 10 by omega, hd]
      · obtain rfl : j = 0 := by omega
        refine ⟨_, _, ?_, h2'⟩
        refine fin128 hlr h2' ?_
        refine (if_pos (decide_eq_true (show ((0 + 2 + 4 : Nat) : Int) ≥ 4 by decide))).trans ?_
        repeat refine (if_pos (by omega)).trans ?_
        refine (if_pos (decide_eq_true (by decide))).trans ?_
        repeat refine (if_pos (by omega)).trans ?_
        refine (if_neg (by decide)).trans ?_
        simp only [Int.toNat_natCast, Nat.zero_add]
        rw [tb_lo a (by omega), tb_hi a (by omega), tb_lo b (by omega), tb_hi b (by omega), tb_lo c (by omega), tb_hi c (by omega)]
        rw [show a % 10 = v % 10 by omega, show a / 10 = v / 10 % 10 by omega, show b % 10 = v / 100 % 10 by omega, show b / 10 = v / 100 / 10 % 10 by omega, show c % 10 = H % 10 by omega, show c / 10 = H / 10 % 10 by omega]
    · by_cases h3 : 0 < k
      · obtain rfl : k = 1 := by omega
        have h3' := h1.step1
        refine ⟨_, _, ?_, h3'⟩
        refine fin128 hlr h3' ?_
        refine (if_pos (decide_eq_true (show ((1 + 4 : Nat) : Int) ≥ 4 by decide))).trans ?_
        repeat refine (if_pos (by omega)).trans ?_
        refine (if_neg (by decide)).trans ?_
        refine (if_pos (decide_eq_true (by decide))).trans ?_
        refine (if_pos (by omega)).trans ?_
        simp only [Int.toNat_natCast, Nat.zero_add]
        rw [e48 H (by omega), tb_lo a (by omega), tb_hi a (by omega), tb_lo b (by omega), tb_hi b (by omega)]
        rw [show a % 10 = v % 10 by omega, show a / 10 = v / 10 % 10 by omega, show b % 10 = v / 100 % 10 by omega, show b / 10 = v / 100 / 10 % 10 by omega]
      · obtain rfl : k = 0 := by omega
        refine ⟨_, _, ?_, h1⟩
        refine fin128 hlr h1 ?_
        refine (if_pos (decide_eq_true (show ((0 + 4 : Nat) : Int) ≥ 4 by decide))).trans ?_
        repeat refine (if_pos (by omega)).trans ?_
        refine (if_neg (by decide)).trans ?_
        refine (if_neg (by decide)).trans ?_
        simp only [Int.toNat_natCast, Nat.zero_add]
        rw [tb_lo a (by omega), tb_hi a (by omega), tb_lo b (by omega), tb_hi b (by omega)]
        rw [show a % 10 = v % 10 by omega, show a / 10 = v / 10 % 10 by omega, show b % 10 = v / 100 % 10 by omega, show b / 10 = v / 100 / 10 % 10 by omega]
  · obtain ⟨c, hc⟩ : ∃ c, c = v % 100 := ⟨_, rfl⟩
    obtain ⟨d, hd⟩ : ∃ d, d = v / 100 := ⟨_, rfl⟩
    have ec : IntKind.u32.wrap ((v : Int).tmod 100 * 2) = ((c * 2 : Nat) : Int) := by rw [Int.tmod_eq_emod_of_nonneg (by omega), w32 (by omega) (by omega)]; omega
    have ed : IntKind.u32.wrap ((v : Int).tdiv 100) = (d : Int) := by rw [Int.tdiv_eq_ediv_of_nonneg (by omega), w32 (by omega) (by omega)]; omega
    by_cases h2 : 2 ≤ m
    · obtain ⟨j, rfl⟩ : ∃ j, m = j + 2 := ⟨m - 2, by omega⟩
      have h2' := h.step2
      have hsm := h2'.small
      have em1 : IntKind.i64.wrap (((j + 2 : Nat) : Int) - 1) = ((j + 1 : Nat) : Int) := by rw [wi (by omega) (by omega)]; omega
      have em2 : IntKind.i64.wrap (((j + 2 : Nat) : Int) - 2) = (j : Int) := by rw [wi (by omega) (by omega)]; omega
      rw [em1, em2, ec, ed, ep c (by omega)]
      by_cases h3 : 0 < j
      · obtain rfl : j = 1 := by omega
        have h3' := h2'.step1
        refine ⟨_, _, ?_, h3'⟩
        refine fin128 hlr h3' ?_
        refine (if_neg (show ¬ decide (((1 + 2 : Nat) : Int) ≥ 4) = true by decide)).trans ?_
        refine (if_pos (show decide (((1 + 2 : Nat) : Int) ≥ 2) = true by decide)).trans ?_
        repeat refine (if_pos (by omega)).trans ?_
        refine (if_pos (show decide (((1 : Nat) : Int) > 0) = true by decide)).trans ?_
        refine (if_pos (by omega)).trans ?_
        simp only [Int.toNat_natCast, Nat.zero_add]
        rw [e48 d (by omega), tb_lo c (by omega), tb_hi c (by omega)]
        rw [show c % 10 = v % 10 by omega, show c / 10 = v / 10 % 10 by omega, hd]
      · obtain rfl : j = 0 := by omega
        refine ⟨_, _, ?_, h2'⟩
        refine fin128 hlr h2' ?_
        refine (if_neg (show ¬ decide (((0 + 2 : Nat) : Int) ≥ 4) = true by decide)).trans ?_
        refine (if_pos (show decide (((0 + 2 : Nat) : Int) ≥ 2) = true by decide)).trans ?_
        repeat refine (if_pos (by omega)).trans ?_
        refine (if_neg (show ¬ decide (((0 : Nat) : Int) > 0) = true by decide)).trans ?_
        simp only [Int.toNat_natCast, Nat.zero_add]
        rw [tb_lo c (by omega), tb_hi c (by omega)]
        rw [show c % 10 = v % 10 by omega, show c / 10 = v / 10 % 10 by omega]
    · by_cases h3 : 0 < m
      · obtain rfl : m = 1 := by omega
        have hsm := h.small
        have h3' := h.step1
        refine ⟨_, _, ?_, h3'⟩
        refine fin128 hlr h3' ?_
        refine (if_neg (show ¬ decide (((1 : Nat) : Int) ≥ 4) = true by decide)).trans ?_
        refine (if_neg (show ¬ decide (((1 : Nat) : Int) ≥ 2) = true by decide)).trans ?_
        refine (if_pos (show decide (((1 : Nat) : Int) > 0) = true by decide)).trans ?_
        refine (if_pos (by omega)).trans ?_
        rw [e48 v (by omega)]
      · obtain rfl : m = 0 := by omega
        refine ⟨_, _, ?_, h⟩
        refine fin128 hlr h ?_
        refine (if_neg (show ¬ decide (((0 : Nat) : Int) ≥ 4) = true by decide)).trans ?_
        refine (if_neg (show ¬ decide (((0 : Nat) : Int) ≥ 2) = true by decide)).trans ?_
        exact if_neg (show ¬ decide (((0 : Nat) : Int) > 0) = true by decide)
end Go.Proofs.Rf
/- FormatUint; the limits of a type, in both texts; Check, Width, Limits. -/
namespace Go.Proofs.Rf
open Go Go.RowKit D

theorem tb0_all : ∀ p : Fin 10, (tbEQ01_0.take (p.val + 1)).drop p.val = [UInt8.ofNat (48 + p.val)] := by decide +kernel
theorem tb1_all : ∀ p : Fin 100, (tbEQ01_1.take (p.val * 2 + 2)).drop (p.val * 2) = [UInt8.ofNat (48 + p.val / 10), UInt8.ofNat (48 + p.val % 10)] := by decide +kernel

theorem L126_spec {n : Nat} (h : n < 100) : L126 ((n : Int), ()) = some ((dec n, ()), ()) := by
  show F126 ((n : Int), ()) = _
  rw [F126_eq]
  by_cases h9 : n < 10
  · have e1 : IntKind.i64.wrap ((n : Int) + 1) = ((n + 1 : Nat) : Int) := by rw [wi (by omega) (by omega)]; omega
    rw [if_pos (show decide ((n : Int) < 10) = true from decide_eq_true (by omega)), e1, if_pos (by omega), if_pos (by omega), if_pos (by omega), Int.toNat_natCast, Int.toNat_natCast, dec_small h9]
    have := tb0_all ⟨n, h9⟩
    simp only at this
    rw [this]
  · have e1 : IntKind.i64.wrap ((n : Int) * 2) = ((n * 2 : Nat) : Int) := by rw [wi (by omega) (by omega)]; omega
    have e2 : IntKind.i64.wrap (((n * 2 : Nat) : Int) + 2) = ((n * 2 + 2 : Nat) : Int) := by rw [wi (by omega) (by omega)]; omega
    rw [if_neg (show ¬ decide ((n : Int) < 10) = true by rw [decide_eq_true_eq]; omega), e1, e2, if_pos (by omega), if_pos (by omega), if_pos (by omega), Int.toNat_natCast, Int.toNat_natCast, dec_big h9, dec_small (by omega)]
    have := tb1_all ⟨n, h⟩
    simp only at this
    rw [this]
    rfl

theorem L127_spec {n : Nat} (h1 : 1 ≤ n) (h : n < 18446744073709551616) : L127 ((n : Int), ()) = some ((((Lib.nDigits n : Nat) : Int), ()), ()) := by
  show (if u64Ok (n : Int) = true then (some ((((Lib.nDigits (n : Int).toNat : Nat) : Int), ()), ()) : Option rs127.den) else none) = _
  rw [if_pos (show u64Ok (n : Int) = true by unfold u64Ok; rw [decide_eq_true (by omega), decide_eq_true (by omega)]; rfl), Int.toNat_natCast]

theorem L98_spec {n : Nat} (h : n < 18446744073709551616) : L98 ((n : Int), 10, ()) = some ((dec n, ()), ()) := by
  show F98 L126 L127 L128z ((n : Int), 10, ()) = _
  rw [F98_eq, if_pos (by rfl)]
  by_cases h9 : n < 100
  · rw [if_pos (show decide ((n : Int) < 100) = true from decide_eq_true (by omega)), wi (by omega) (by omega), L126_spec h9]
    rfl
  · have hd : Lib.nDigits n ≤ 20 := by
      rw [← Lib.decDigits_length]
      exact dec_length_le (k := 20) (Nat.lt_trans h (by decide)) (by decide)
    have hs : n < 10 ^ Lib.nDigits n := Lib.lt_pow_nDigits n
    have hq := L127_spec (n := n) (by omega) h
    generalize hD : Lib.nDigits n = m at *
    obtain ⟨v, r', h1, h2⟩ := L128z_spec (n := m) (u := n) (r := [0, 0, 0, 0, 0, 0, 0, 0, 0, 0, 0, 0, 0, 0, 0, 0, 0, 0, 0, 0, 0, 0, 0, 0]) ⟨rfl, by omega, Nat.le_refl _, by simp, hs, fun t h1 h2 => by omega⟩ h
    rw [if_neg (show ¬ decide ((n : Int) < 100) = true by rw [decide_eq_true_eq]; omega), hq]
    simp only [Option.bind_some]
    refine (if_pos (show (0 : Int) ≤ (m : Int) by omega)).trans ?_
    refine (if_pos (show (m : Int) ≤ ((24 : Nat) : Int) by omega)).trans ?_
    rw [Int.toNat_natCast, Nat.sub_zero, h1]
    simp only [Option.bind_some]
    refine (if_pos (show 24 = r'.length from h2.len.symm)).trans ?_
    refine (if_pos (show (0 : Int) ≤ (m : Int) by omega)).trans ?_
    refine (if_pos (show (m : Int) ≤ ((24 : Nat) : Int) by omega)).trans ?_
    rw [FI.end hD.symm h2]

theorem L58_spec {n : Nat} (h : n < 18446744073709551616) : L58 ((n : Int), 10, ()) = some ((dec n, ()), ()) := by
  show F58 L98 ((n : Int), 10, ()) = _
  rw [F58_eq, L98_spec h]
  rfl

/-! ### Masks -/
theorem pow_lt64 {n : Nat} (h : n < 64) : 2 ^ n < 18446744073709551616 := Nat.pow_lt_pow_right (a := 2) (m := n) (n := 64) (by decide) h

theorem pow_le64 {n : Nat} (h : n ≤ 64) : 2 ^ n ≤ 18446744073709551616 := Nat.pow_le_pow_right (n := 2) (i := n) (j := 64) (by decide) h

theorem mask_u {n : Nat} (h : n ≤ 64) : IntKind.u64.wrap (IntKind.u64.wrap (1 * 2 ^ min (Int.toNat (n : Int)) 64) - 1) = ((2 ^ n - 1 : Nat) : Int) := by
  by_cases h1 : n < 64
  · rw [pow64 h1]
    have := pow_lt64 h1
    have h3 := Nat.two_pow_pos n
    rw [w64 (by omega) (by omega)]
    omega
  · obtain rfl : n = 64 := by omega
    rfl

theorem L57_spec {n : Nat} (h : n ≤ 64) : L57 ((n : Int), ()) = some ((((2 ^ n - 1 : Nat) : Int), ()), ()) := by
  show F57 ((n : Int), ()) = _
  rw [F57_eq, if_neg (by omega), mask_u h]

/-! ### Limits -/
def lo (n : Nat) (s : Bool) : Int := if s = true then -((2 ^ (n - 1) : Nat) : Int) else 0
def hi (n : Nat) (s : Bool) : Int := if s = true then ((2 ^ (n - 1) - 1 : Nat) : Int) else ((2 ^ n - 1 : Nat) : Int)

theorem str_nat (n : Nat) : str (n : Int) = dec n := by unfold str; rw [if_neg (by omega), Int.natAbs_natCast]
theorem str_negn {n : Nat} (h : 0 < n) : str (-(n : Int)) = 45 :: dec n := by unfold str; rw [if_pos (by omega), Int.natAbs_neg, Int.natAbs_natCast]

theorem L44_spec {n : Nat} {s : Bool} (h : n ≤ 64) (h1 : s = true → 1 ≤ n) : L44 (((n : Int), s), ()) = some (((str (lo n s), str (hi n s)), ()), ()) := by
  show F44 L57 L58 (((n : Int), s), ()) = _
  have hm := pow_le64 h
  rw [F44_eq]
  unfold lo hi
  cases s with
  | false =>
    rw [if_pos (by decide), L57_spec h]
    simp only [Option.bind_some]
    rw [L58_spec (by omega), if_neg (by decide), if_neg (by decide), str_nat, show str 0 = [48] from (str_nat 0).trans (dec_small (by decide))]
    rfl
  | true =>
    obtain ⟨k, rfl⟩ : ∃ k, n = k + 1 := ⟨n - 1, by have := h1 rfl; omega⟩
    have hk := pow_lt64 (n := k) (by omega)
    have e1 : IntKind.i64.wrap (((k + 1 : Nat) : Int) - 1) = (k : Int) := by rw [wi (by omega) (by omega)]; omega
    have hl := dec_length_le (n := 2 ^ k) (k := 20) (Nat.lt_trans hk (by decide)) (by decide)
    rw [if_neg (by decide), e1, if_neg (by omega), pow64 (by omega), L58_spec hk]
    simp only [Option.bind_some]
    rw [if_pos (by omega), L57_spec (by omega)]
    simp only [Option.bind_some]
    rw [L58_spec (by omega), if_pos (show True from trivial), if_pos (show True from trivial), Nat.add_sub_cancel, str_negn (Nat.two_pow_pos k), str_nat]
    rfl

theorem Sz_lo {n : Nat} {s : Bool} (h : n ≤ 64) : Sz 40 (lo n s) := by
  unfold lo Sz
  split
  · rw [Int.natAbs_neg, Int.natAbs_natCast]
    exact lim_length_of (Nat.lt_of_le_of_lt (pow_le64 (by omega)) (by decide))
  · exact lim_length_of (by decide)
theorem Sz_hi {n : Nat} {s : Bool} (h : n ≤ 64) : Sz 40 (hi n s) := by
  unfold hi Sz
  split
  · rw [Int.natAbs_natCast]
    have := pow_le64 (n := n - 1) (by omega)
    exact lim_length_of (Nat.lt_of_le_of_lt (show 2 ^ (n - 1) - 1 ≤ 18446744073709551616 by omega) (by decide))
  · rw [Int.natAbs_natCast]
    have := pow_le64 h
    exact lim_length_of (Nat.lt_of_le_of_lt (show 2 ^ n - 1 ≤ 18446744073709551616 by omega) (by decide))

theorem tyN_le {t : List UInt8} (h : tyErr t = 0) : tyOK t = true ∧ tyN t ≤ 64 ∧ (tyS t = true → 1 ≤ tyN t) := by
  by_cases hk : tyOK t = true
  · refine ⟨hk, ?_⟩
    by_cases hc : 64 < tyN t ∨ (tyS t = true ∧ tyN t = 0)
    · rw [tyErr_3 hk hc] at h; exact absurd h (by decide)
    · exact ⟨Nat.le_of_not_lt fun q => hc (.inl q), fun hs => Nat.pos_of_ne_zero fun q => hc (.inr ⟨hs, q⟩)⟩
  · rw [tyErr_6 hk] at h; exact absurd h (by decide)

/-! ### Law 3's functions -/
def W3 (t : List UInt8) : Int × Bool × Int × Unit := if tyErr t = 0 then ((tyN t : Int), tyS t, 0, ()) else (0, false, tyErr t, ())

theorem L11_spec (t : List UInt8) : L11 (t, ()) = some ((W3 t, ())) := by
  show F11 L42 (t, ()) = _
  rw [F11_eq, L42_spec]
  unfold W3
  by_cases h : tyErr t = 0
  · rw [if_pos h, if_pos h]; rfl
  · rw [if_neg h, if_neg h]; rfl

end Go.Proofs.Rf
/- The functions, filled in. -/
set_option linter.unusedVariables false
namespace Go.Proofs.Rf
open Go Go.RowKit
noncomputable def Kg89_2 : sh89_2.den → Option (denX w89_2) := iterL (S89_2) 100
noncomputable def K89 : (SV.denL ps89) → Option (rs89).den := F89 Kg89_2
theorem okK89 : CallOK Tryz.prog 89 (mkCall ps89 rs89 K89) := call89 (lim_iterL _ _)
noncomputable def Kg121_10 : sh121_10.den → Option (denX w121_10) := iterL (S121_10) 100
noncomputable def K121 : (SV.denL ps121) → Option (rs121).den := F121 Kg121_10
theorem okK121 : CallOK Tryz.prog 121 (mkCall ps121 rs121 K121) := call121 (lim_iterL _ _)
noncomputable def K90 : (SV.denL ps90) → Option (rs90).den := F90 K121
theorem okK90 : CallOK Tryz.prog 90 (mkCall ps90 rs90 K90) := call90 okK121
noncomputable def K42 : (SV.denL ps42) → Option (rs42).den := F42 K89 K90
theorem okK42 : CallOK Tryz.prog 42 (mkCall ps42 rs42 K42) := call42 okK89 okK90
noncomputable def K11 : (SV.denL ps11) → Option (rs11).den := F11 K42
theorem okK11 : CallOK Tryz.prog 11 (mkCall ps11 rs11 K11) := call11 okK42
noncomputable def K57 : (SV.denL ps57) → Option (rs57).den := F57
theorem okK57 : CallOK Tryz.prog 57 (mkCall ps57 rs57 K57) := call57
noncomputable def K126 : (SV.denL ps126) → Option (rs126).den := F126
theorem okK126 : CallOK Tryz.prog 126 (mkCall ps126 rs126 K126) := call126
abbrev K127 : (SV.denL ps127) → Option (rs127).den := F127
theorem okK127 : CallOK Tryz.prog 127 (mkCall ps127 rs127 K127) := call127
noncomputable def Kg128z_1 : sh128z_1.den → Option (denX w128z_1) := iterL (S128z_1) 100
noncomputable def K128z : (psh128z.den) → Option (rs128z).den := F128z Kg128z_1
theorem okK128z : CallOK Tryz.prog 128 (mkCallB psh128z rs128z m128z 1 K128z) := call128z (lim_iterL _ _)
noncomputable def K98 : (SV.denL ps98) → Option (rs98).den := F98 K126 K127 K128z
theorem okK98 : CallOK Tryz.prog 98 (mkCall ps98 rs98 K98) := call98 okK126 okK127 okK128z
noncomputable def K58 : (SV.denL ps58) → Option (rs58).den := F58 K98
theorem okK58 : CallOK Tryz.prog 58 (mkCall ps58 rs58 K58) := call58 okK98
noncomputable def K44 : (SV.denL ps44) → Option (rs44).den := F44 K57 K58
theorem okK44 : CallOK Tryz.prog 44 (mkCall ps44 rs44 K44) := call44 okK57 okK58
noncomputable def K13 : (SV.denL ps13) → Option (rs13).den := F13 K42 K44
theorem okK13 : CallOK Tryz.prog 13 (mkCall ps13 rs13 K13) := call13 okK42 okK44
noncomputable def K15 : (SV.denL ps15) → Option (rs15).den := F15 K42
theorem okK15 : CallOK Tryz.prog 15 (mkCall ps15 rs15 K15) := call15 okK42
noncomputable def Kg55_2 : sh55_2.den → Option (denX w55_2) := iterL (S55_2) 100
noncomputable def K55 : (SV.denL ps55) → Option (rs55).den := F55 Kg55_2
theorem okK55 : CallOK Tryz.prog 55 (mkCall ps55 rs55 K55) := call55 (lim_iterL _ _)
noncomputable def K56 : (SV.denL ps56) → Option (rs56).den := F56
theorem okK56 : CallOK Tryz.prog 56 (mkCall ps56 rs56 K56) := call56
noncomputable def K100 : (SV.denL ps100) → Option (rs100).den := F100
theorem okK100 : CallOK Tryz.prog 100 (mkCall ps100 rs100 K100) := call100
noncomputable def K120 : (SV.denL ps120) → Option (rs120).den := F120 K100
theorem okK120 : CallOK Tryz.prog 120 (mkCall ps120 rs120 K120) := call120 okK100
noncomputable def K88 : (SV.denL ps88) → Option (rs88).den := F88 K120
theorem okK88 : CallOK Tryz.prog 88 (mkCall ps88 rs88 K88) := call88 okK120
noncomputable def K41 : (SV.denL ps41) → Option (rs41).den := F41 K55 K56 K88 K89
theorem okK41 : CallOK Tryz.prog 41 (mkCall ps41 rs41 K41) := call41 okK55 okK56 okK88 okK89
noncomputable def Kg101_1 : sh101_1.den → Option (denX w101_1) := iterL (S101_1) 100
noncomputable def K101 : (SV.denL ps101) → Option (rs101).den := F101 Kg101_1
theorem okK101 : CallOK Tryz.prog 101 (mkCall ps101 rs101 K101) := call101 (lim_iterL _ _)
noncomputable def K115 : (SV.denL ps115) → Option (rs115).den := F115 K101
theorem okK115 : CallOK Tryz.prog 115 (mkCall ps115 rs115 K115) := call115 okK101
noncomputable def K118 : (SV.denL ps118) → Option (rs118).den := F118
theorem okK118 : CallOK Tryz.prog 118 (mkCall ps118 rs118 K118) := call118
noncomputable def KD142 : Dt142 := colK (B142) (Y142) 100
theorem okKI142 : IterOK Tryz.prog 142 encs142 (cap142 KD142) := it142 (coll_colK _ _ _)
noncomputable def Kg81_4 : List El142 → sh81_4.den → Option (sh81_4.den ⊕ denX w81_4) := foldR (S81_4 K90)
noncomputable def K81 : (SV.denL ps81) → Option (rs81).den := F81 K88 K115 K118 KD142 Kg81_4
theorem okK81 : CallOK Tryz.prog 81 (mkCall ps81 rs81 K81) := call81 okKI142 okK115 okK118 okK88 okK90 rfl
noncomputable def K47 : (SV.denL ps47) → Option (rs47).den := F47 K41 K42 K55 K81
theorem okK47 : CallOK Tryz.prog 47 (mkCall ps47 rs47 K47) := call47 okK41 okK42 okK55 okK81
noncomputable def K148 : (SV.denL ps148) → Option (rs148).den := F148
theorem okK148 : CallOK Tryz.prog 148 (mkCall ps148 rs148 K148) := call148
noncomputable def K123 : (SV.denL ps123) → Option (rs123).den := F123 K148
theorem okK123 : CallOK Tryz.prog 123 (mkCall ps123 rs123 K123) := call123 okK148
noncomputable def K149 : (SV.denL ps149) → Option (rs149).den := F149
theorem okK149 : CallOK Tryz.prog 149 (mkCall ps149 rs149 K149) := call149
noncomputable def K124 : (SV.denL ps124) → Option (rs124).den := F124 K149
theorem okK124 : CallOK Tryz.prog 124 (mkCall ps124 rs124 K124) := call124 okK149
noncomputable def Kg94_5 : sh94_5.den → Option (denX w94_5) := iterL (S94_5 K124) 100
noncomputable def K94 : (SV.denL ps94) → Option (rs94).den := F94 K123 Kg94_5
theorem okK94 : CallOK Tryz.prog 94 (mkCall ps94 rs94 K94) := call94 okK123 okK124 (lim_iterL _ _)
noncomputable def K49 : (SV.denL ps49) → Option (rs49).den := F49 K94
theorem okK49 : CallOK Tryz.prog 49 (mkCall ps49 rs49 K49) := call49 okK94
noncomputable def K48 : (SV.denL ps48) → Option (rs48).den := F48 K44 K49 K81
theorem okK48 : CallOK Tryz.prog 48 (mkCall ps48 rs48 K48) := call48 okK44 okK49 okK81
noncomputable def K95 : (SV.denL ps95) → Option (rs95).den := F95
theorem okK95 : CallOK Tryz.prog 95 (mkCall ps95 rs95 K95) := call95
noncomputable def KD125 : Dt125 := colK (B125) (Y125) 100
theorem okKI125 : IterOK Tryz.prog 125 encs125 (cap125 KD125) := it125 (coll_colK _ _ _)
noncomputable def Kg50_3 : List El125 → sh50_3.den → Option (sh50_3.den ⊕ denX w50_3) := foldR (S50_3)
noncomputable def K50 : (SV.denL ps50) → Option (rs50).den := F50 K57 K95 KD125 Kg50_3
theorem okK50 : CallOK Tryz.prog 50 (mkCall ps50 rs50 K50) := call50 okKI125 okK57 okK95 rfl
noncomputable def K17 : (SV.denL ps17) → Option (rs17).den := F17 K47 K48 K49 K50
theorem okK17 : CallOK Tryz.prog 17 (mkCall ps17 rs17 K17) := call17 okK47 okK48 okK49 okK50
noncomputable def K19 : (SV.denL ps19) → Option (rs19).den := F19 K42 K55 K56 K57 K58
theorem okK19 : CallOK Tryz.prog 19 (mkCall ps19 rs19 K19) := call19 okK42 okK55 okK56 okK57 okK58
noncomputable def K21 : (SV.denL ps21) → Option (rs21).den := F21 K47 K50
theorem okK21 : CallOK Tryz.prog 21 (mkCall ps21 rs21 K21) := call21 okK47 okK50
noncomputable def K23 : (SV.denL ps23) → Option (rs23).den := F23 K47 K48 K50
theorem okK23 : CallOK Tryz.prog 23 (mkCall ps23 rs23 K23) := call23 okK47 okK48 okK50
noncomputable def K200 : (SV.denL ps200) → Option (rs200).den := F200
theorem okK200 : CallOK Tryz.prog 200 (mkCall ps200 rs200 K200) := call200
noncomputable def K199 : (SV.denL ps199) → Option (rs199).den := F199 K200
theorem okK199 : CallOK Tryz.prog 199 (mkCall ps199 rs199 K199) := call199 okK200
noncomputable def Kg64_4 : sh64_4.den → Option (denX w64_4) := iterL (S64_4 K199 K200) 100
noncomputable def K64 : (SV.denL ps64) → Option (rs64).den := F64 Kg64_4
theorem okK64 : CallOK Tryz.prog 64 (mkCall ps64 rs64 K64) := call64 okK199 okK200 (lim_iterL _ _)
abbrev K104 : (SV.denL ps104) → Option (rs104).den := F104
theorem okK104 : CallOK Tryz.prog 104 (mkCall ps104 rs104 K104) := call104
abbrev K105 : (SV.denL ps105) → Option (rs105).den := F105
theorem okK105 : CallOK Tryz.prog 105 (mkCall ps105 rs105 K105) := call105
noncomputable def K103 : (SV.denL ps103) → Option (rs103).den := F103 K104 K105
theorem okK103 : CallOK Tryz.prog 103 (mkCall ps103 rs103 K103) := call103 okK104 okK105
noncomputable def Kg102_3 : sh102_3.den → Option (denX w102_3) := iterL (S102_3 K103) 100
noncomputable def K102 : (SV.denL ps102) → Option (rs102).den := F102 Kg102_3
theorem okK102 : CallOK Tryz.prog 102 (mkCall ps102 rs102 K102) := call102 okK103 (lim_iterL _ _)
noncomputable def Kg106_1 : sh106_1.den → Option (denX w106_1) := iterL (S106_1) 100
noncomputable def K106 : (psh106.den) → Option (rs106).den := F106 Kg106_1
theorem okK106 : CallOK Tryz.prog 106 (mkCallB psh106 rs106 m106 1 K106) := call106 (lim_iterL _ _)
noncomputable def Kg136_1 : sh136_1.den → Option (denX w136_1) := iterL (S136_1) 100
noncomputable def K136 : (SV.denL ps136) → Option (rs136).den := F136 Kg136_1
theorem okK136 : CallOK Tryz.prog 136 (mkCall ps136 rs136 K136) := call136 (lim_iterL _ _)
noncomputable def K107 : (SV.denL ps107) → Option (rs107).den := F107 K136
theorem okK107 : CallOK Tryz.prog 107 (mkCall ps107 rs107 K107) := call107 okK136
abbrev K108 : (SV.denL ps108) → Option (rs108).den := F108
theorem okK108 : CallOK Tryz.prog 108 (mkCall ps108 rs108 K108) := call108
noncomputable def K66 : (SV.denL ps66) → Option (rs66).den := F66 K102 K106 K107 K108
theorem okK66 : CallOK Tryz.prog 66 (mkCall ps66 rs66 K66) := call66 okK102 okK106 okK107 okK108
noncomputable def K63 : (SV.denL ps63) → Option (rs63).den := F63 K100
theorem okK63 : CallOK Tryz.prog 63 (mkCall ps63 rs63 K63) := call63 okK100
noncomputable def Kg65_4 : sh65_4.den → Option (denX w65_4) := iterL (S65_4) 100
noncomputable def K65 : (SV.denL ps65) → Option (rs65).den := F65 K101 Kg65_4
theorem okK65 : CallOK Tryz.prog 65 (mkCall ps65 rs65 K65) := call65 okK101 (lim_iterL _ _)
noncomputable def Kg25_5 : sh25_5.den → Option (denX w25_5) := iterL (S25_5 K63) 100
noncomputable def Kg25_15 : sh25_15.den → Option (denX w25_15) := iterL (S25_15 K65) 100
noncomputable def K25 : (SV.denL ps25) → Option (rs25).den := F25 K64 K66 Kg25_5 Kg25_15
theorem okK25 : CallOK Tryz.prog 25 (mkCall ps25 rs25 K25) := call25 okK63 okK64 okK65 okK66 (lim_iterL _ _) (lim_iterL _ _)
noncomputable def K141 : (SV.denL ps141) → Option (rs141).den := F141
theorem okK141 : CallOK Tryz.prog 141 (mkCall ps141 rs141 K141) := call141
noncomputable def Kg114_4 : sh114_4.den → Option (denX w114_4) := iterL (S114_4 K141) 100
noncomputable def K114 : (SV.denL ps114) → Option (rs114).den := F114 K101 Kg114_4
theorem okK114 : CallOK Tryz.prog 114 (mkCall ps114 rs114 K114) := call114 okK101 okK141 (lim_iterL _ _)
noncomputable def Kg116_5 : sh116_5.den → Option (denX w116_5) := iterL (S116_5 K141) 100
noncomputable def K116 : (SV.denL ps116) → Option (rs116).den := F116 K101 Kg116_5
theorem okK116 : CallOK Tryz.prog 116 (mkCall ps116 rs116 K116) := call116 okK101 okK141 (lim_iterL _ _)
noncomputable def K74 : (SV.denL ps74) → Option (rs74).den := F74 K94 K114 K115 K116
theorem okK74 : CallOK Tryz.prog 74 (mkCall ps74 rs74 K74) := call74 okK114 okK115 okK116 okK94
noncomputable def K76 : (SV.denL ps76) → Option (rs76).den := F76 K115
theorem okK76 : CallOK Tryz.prog 76 (mkCall ps76 rs76 K76) := call76 okK115
noncomputable def K75 : (SV.denL ps75) → Option (rs75).den := F75 K74 K76
theorem okK75 : CallOK Tryz.prog 75 (mkCall ps75 rs75 K75) := call75 okK74 okK76
noncomputable def Kg77_3 : List El125 → sh77_3.den → Option (sh77_3.den ⊕ denX w77_3) := foldR (S77_3 K65 K114)
noncomputable def K77 : (SV.denL ps77) → Option (rs77).den := F77 K95 K115 KD125 Kg77_3
theorem okK77 : CallOK Tryz.prog 77 (mkCall ps77 rs77 K77) := call77 okKI125 okK114 okK115 okK65 okK95 rfl
noncomputable def K73 : (SV.denL ps73) → Option (rs73).den := F73 K41 K55 K66 K74 K75 K77 K81
theorem okK73 : CallOK Tryz.prog 73 (mkCall ps73 rs73 K73) := call73 okK41 okK55 okK66 okK74 okK75 okK77 okK81
noncomputable def K31 : (SV.denL ps31) → Option (rs31).den := F31 K73
theorem okK31 : CallOK Tryz.prog 31 (mkCall ps31 rs31 K31) := call31 okK73
noncomputable def Kg117_8 : sh117_8.den → Option (denX w117_8) := iterL (S117_8 K65 K94) 100
noncomputable def Kg117_4 : List El125 → sh117_4.den → Option (sh117_4.den ⊕ denX w117_4) := foldR (S117_4 K65 K101 K116 Kg117_8)
noncomputable def K117 : (SV.denL ps117) → Option (rs117).den := F117 K95 K101 KD125 Kg117_4
theorem okK117 : CallOK Tryz.prog 117 (mkCall ps117 rs117 K117) := call117 okKI125 okK101 okK116 okK65 okK94 okK95 (lim_iterL _ _) rfl
noncomputable def K79 : (SV.denL ps79) → Option (rs79).den := F79 K115 K117
theorem okK79 : CallOK Tryz.prog 79 (mkCall ps79 rs79 K79) := call79 okK115 okK117
noncomputable def K80 : (SV.denL ps80) → Option (rs80).den := F80 K74 K79 K81
theorem okK80 : CallOK Tryz.prog 80 (mkCall ps80 rs80 K80) := call80 okK74 okK79 okK81
noncomputable def K78 : (SV.denL ps78) → Option (rs78).den := F78 K41 K55 K56 K66 K79 K80 K81
theorem okK78 : CallOK Tryz.prog 78 (mkCall ps78 rs78 K78) := call78 okK41 okK55 okK56 okK66 okK79 okK80 okK81
noncomputable def K33 : (SV.denL ps33) → Option (rs33).den := F33 K78
theorem okK33 : CallOK Tryz.prog 33 (mkCall ps33 rs33 K33) := call33 okK78
noncomputable def K10 : (SV.denL ps10) → Option (rs10).den := F10 K11 K13 K15 K17 K19 K21 K23 K25 K31 K33
theorem okK10 : CallOK Tryz.prog 10 (mkCall ps10 rs10 K10) := call10 okK11 okK13 okK15 okK17 okK19 okK21 okK23 okK25 okK31 okK33
end Go.Proofs.Rf
/- awake() is true. -/
namespace Go.Proofs.Rf
open Go Go.RowKit
theorem K10_val : K10 () = some ((true, ()), ()) := by kernel_rfl
end Go.Proofs.Rf
/- The law of types' names returns true. -/
namespace Go.Proofs.Rf
open Go Go.RowKit D

/-- All are short. -/
def shortB (l : List (List UInt8)) : Bool := l.all fun s => decide (s.length ≤ 600)

theorem L9_spec {l : List (List UInt8)} (hl : l.length < 1000) : L9 (l, ()) = some ((shortB l, ()), ()) := by
  obtain ⟨z, h1, hz⟩ := limL_ind (f := S9_2) (fun x => l.length - x.1.2.2.1.toNat)
    (fun x => ∃ i : Nat, x = ((l, (l.length : Int), (i : Int), ()), ()) ∧ i ≤ l.length ∧ shortB l = shortB (l.drop i))
    (fun z => (z = .inl ((false, ()), ()) ∧ shortB l = false) ∨ (z = .inr ((), ()) ∧ shortB l = true)) (by
    rintro x ⟨i, rfl, hi, he⟩
    rw [S9_2_eq]
    by_cases hlt : i < l.length
    · have hd : l.drop i = l.getD i [] :: l.drop (i + 1) := by
        rw [List.drop_eq_getElem_cons hlt, List.getD_eq_getElem?_getD, List.getElem?_eq_getElem hlt]
        rfl
      rw [hd] at he
      have he : shortB l = (decide ((l.getD i []).length ≤ 600) && shortB (l.drop (i + 1))) := he
      rw [if_pos (decide_eq_true (by omega)), if_pos (by omega), if_pos (by omega), Int.toNat_natCast]
      by_cases h0 : (l.getD i []).length ≤ 600
      · left
        have e6 : IntKind.i64.wrap ((i : Int) + 1) = ((i + 1 : Nat) : Int) := by rw [wi (by omega) (by omega)]; omega
        rw [if_neg (show ¬ decide (((l.getD i []).length : Int) > 600) = true by rw [decide_eq_true_eq]; omega), e6]
        rw [decide_eq_true h0, Bool.true_and] at he
        exact ⟨_, rfl, ⟨i + 1, rfl, by omega, he⟩, by simp only [Int.toNat_natCast]; omega⟩
      · right
        rw [if_pos (show decide (((l.getD i []).length : Int) > 600) = true by rw [decide_eq_true_eq]; omega)]
        rw [decide_eq_false h0, Bool.false_and] at he
        exact ⟨_, rfl, .inl ⟨rfl, he⟩⟩
    · right
      refine ⟨_, if_neg (by rw [decide_eq_true_eq]; omega), .inr ⟨rfl, ?_⟩⟩
      rw [he, List.drop_of_length_le (by omega)]
      rfl) ((l, (l.length : Int), ((0 : Nat) : Int), ()), ()) ⟨0, rfl, by omega, by rw [List.drop_zero]⟩
  show F9 Lg9_2 (l, ()) = _
  have h1 : Lg9_2 ((l, (l.length : Int), 0, ()), ()) = _ := h1
  rw [F9_eq, h1]
  rcases hz with ⟨rfl, h⟩ | ⟨rfl, h⟩
  · rw [h]; rfl
  · rw [h]; rfl

end Go.Proofs.Rf
/- The program's exact integers: trimmed, read from the end, compared. -/
namespace Go.Proofs.Rf
open Go Go.RowKit M

theorem L101_spec {l : List Int} (hw : Wf l) (hl : l.length < 4611686018427387904) : L101 (l, ()) = some ((lim (val l).toNat, ()), ()) := by
  obtain ⟨n, h1, h2, h3, h4⟩ := trim_ind (f := S101_1) (fun n => ((l.take n, ()), ())) (fun n => ((l.take n, ()), ())) l
    (by rw [S101_1_eq]; rfl) (by
      intro n hn
      have hn : n < l.length := hn
      have hlen : (l.take (n + 1)).length = n + 1 := by rw [List.length_take]; omega
      have e : IntKind.i64.wrap ((((l.take (n + 1)).length : Nat) : Int) - 1) = (n : Int) := by rw [hlen]; exact (wi (n := ((n + 1 : Nat) : Int) - 1) (by omega) (by omega)).trans (by omega)
      have hg : (l.take (n + 1)).getD n 0 = l.getD n 0 := by
        rw [List.getD_eq_getElem?_getD, List.getD_eq_getElem?_getD, List.getElem?_take_of_lt (by omega)]
      have ht : List.take n (l.take (n + 1)) = l.take n := by rw [List.take_take, Nat.min_eq_left (by omega)]
      rw [S101_1_eq, e, hlen, if_pos (decide_eq_true (by omega)), if_pos (by omega), if_pos (by omega), Int.toNat_natCast, hg]
      by_cases hx : (l.getD n 0 == 0) = true
      · rw [if_pos hx, if_pos hx, if_pos (by omega), if_pos (by omega), ht]
      · rw [if_neg hx, if_neg hx])
  show F101 Lg101_1 (l, ()) = _
  have h1 : Lg101_1 ((l, ()), ()) = some ((l.take n, ()), ()) := by
    rw [List.take_of_length_le (Nat.le_refl l.length)] at h1
    exact h1
  rw [F101_eq, h1, take_lim hw h2 h3 h4]
  rfl

theorem L115_spec {neg : Bool} {l : List Int} (hw : Wf l) (hl : l.length < 4611686018427387904) : L115 ((neg, l), ()) = some ((zl (sgn neg (val l).toNat), ()), ()) := by
  show F115 L101 ((neg, l), ()) = _
  rw [F115_eq, L101_spec hw hl, zl_sgn]
  simp only [Option.bind_some, len_pos_int]
  cases neg <;> rfl

/-! ### slices.Backward -/
theorem B125_eq (s : List Int) : B125 (((), ()), ((s, ()), ())) = (
  some (((), IntKind.i64.wrap ((↑s.length : Int) - 1), ()), (s, ()), ()) : Option head125.den) := by kernel_rfl
theorem Y125_eq (i3 : Int) (s : List Int) : Y125 (((), i3, ()), ((s, ()), ())) = (
  if decide (i3 ≥ 0) = true then
    if 0 ≤ i3 then
      if i3 < (↑s.length : Int) then
        some (RY.yl (i3, s.getD i3.toNat 0) (((), IntKind.i64.wrap (i3 - 1), ()), (s, ()), ()))
      else none
    else none
  else some RY.done : Option (RY head125.den El125)) := by kernel_rfl

/-- The elements with their places, the last one ahead. -/
def desc (l : List Int) : Nat → List (Int × Int)
  | 0 => []
  | k + 1 => ((k : Int), l.getD k 0) :: desc l k

theorem Y125_done (l : List Int) : Y125 (((), -1, ()), ((l, ()), ())) = some RY.done := by
  rw [Y125_eq]
  rfl

theorem Y125_go {l : List Int} {k : Nat} (h : k < l.length) (hl : l.length < 4611686018427387904) : Y125 (((), (k : Int), ()), ((l, ()), ())) = some (RY.yl ((k : Int), l.getD k 0) (((), (k : Int) - 1, ()), ((l, ()), ()))) := by
  rw [Y125_eq, if_pos (decide_eq_true (by omega)), if_pos (by omega), if_pos (by omega), Int.toNat_natCast, wi (by omega) (by omega)]

theorem colY_desc {l : List Int} (hl : l.length < 4611686018427387904) : ∀ k, k ≤ l.length → colY Y125 (k + 1) (((), (k : Int) - 1, ()), ((l, ()), ())) = some (desc l k)
  | 0, _ => by
    show (match Y125 (((), (((0 : Nat) : Int)) - 1, ()), ((l, ()), ())) with | some (.go y) => colY Y125 0 y | some .done => some [] | some (.yl e y) => (match colY Y125 0 y with | some r => some (e :: r) | none => none) | none => none) = _
    rw [show (((0 : Nat) : Int)) - 1 = -1 from rfl, Y125_done]
    rfl
  | k + 1, hk => by
    unfold colY
    rw [show ((k + 1 : Nat) : Int) - 1 = (k : Int) by omega, Y125_go (by omega) hl]
    simp only
    rw [colY_desc hl k (by omega)]
    rfl

theorem LD125_spec {l : List Int} (hl : l.length < 4611686018427387904) : LD125 (((), ()), ((l, ()), ())) = some (desc l l.length) := by
  refine colLim_some (l.length + 1) ?_
  show (B125 (((), ()), ((l, ()), ()))).bind _ = _
  rw [B125_eq, wi (by omega) (by omega)]
  exact colY_desc hl l.length (Nat.le_refl _)

theorem foldR_cons {El A B : Type} {f : El → A → Option (A ⊕ B)} {e : El} {r : List El} {x y : A} (h : f e x = some (.inl y)) : foldR f (e :: r) x = foldR f r y := by simp only [foldR, h]

/-- A loop over a list from its end. -/
theorem fold_desc {A B : Type} {l : List Int} {f : Int × Int → A → Option (A ⊕ B)} (st : Nat → A) (h : ∀ j, j < l.length → f ((j : Int), l.getD j 0) (st (j + 1)) = some (.inl (st j))) :
    ∀ k, k ≤ l.length → foldR f (desc l k) (st k) = some (.inl (st 0))
  | 0, _ => rfl
  | k + 1, hk => by
    show foldR f (((k : Int), l.getD k 0) :: desc l k) (st (k + 1)) = _
    rw [foldR_cons (h k (by omega))]
    exact fold_desc st h k (by omega)

/-! ### Bits -/
theorem and_low {x : Int} {n : Nat} (h : n ≤ 64) : bitop .and .u64 (x % 18446744073709551616) ((2 ^ n - 1 : Nat) : Int) = x % ((2 ^ n : Nat) : Int) := by
  have h0 := Int.emod_nonneg x (show (18446744073709551616 : Int) ≠ 0 by decide)
  have h1 := Int.emod_lt_of_pos x (show (0 : Int) < 18446744073709551616 by decide)
  have h2 := pow_le64 h
  have h3 := Nat.two_pow_pos n
  obtain ⟨m, hm⟩ : ∃ m : Nat, x % 18446744073709551616 = (m : Int) := ⟨(x % 18446744073709551616).toNat, by omega⟩
  rw [hm, and64 (by omega) (by omega), Nat.and_two_pow_sub_one_eq_mod, Int.natCast_emod, ← hm]
  refine Int.emod_emod_of_dvd x ?_
  have : (2 ^ n : Nat) ∣ 2 ^ 64 := Nat.pow_dvd_pow 2 h
  exact Int.natCast_dvd_natCast.2 this

theorem L50_spec {z : Int} {n : Nat} {s : Bool} (hn : n ≤ 64) (hz : Sz 99999 z) : L50 (((n : Int), s), zl z, ()) = some ((z % ((2 ^ n : Nat) : Int), ()), ()) := by
  unfold Sz at hz
  show F50 L57 L95 LD125 Lg50_3 (((n : Int), s), (decide (z < 0), lim z.natAbs), ()) = _
  have h95 : L95 (lim z.natAbs, ()) = some ((((), ()), ()), (lim z.natAbs, ()), ()) := F95_eq _
  have hD : LD125 (((), ()), (lim z.natAbs, ()), ()) = some (desc (lim z.natAbs) (lim z.natAbs).length) := LD125_spec (by omega)
  have hw := Wf_lim z.natAbs
  have hv := val_lim z.natAbs
  generalize lim z.natAbs = l at *
  have hf := fold_desc (l := l) (f := S50_3) (fun k => (((), (), (), ()), (((n : Int), s, ()), (decide (z < 0), l, ()), (val (l.drop k) % 18446744073709551616, ()), ()))) (by
    intro j hj
    have hj : j < l.length := hj
    have hg := hw.getD j
    rw [S50_3_eq, drop_at hj]
    simp only [val]
    rw [w64 (n := l.getD j 0) (by omega) (by omega), wu64, wu64]
    generalize val (l.drop (j + 1)) = V at *
    generalize l.getD j 0 = A at *
    rw [show (V % 18446744073709551616 * 1000000000 % 18446744073709551616 + A) % 18446744073709551616 = (A + 1000000000 * V) % 18446744073709551616 by omega]) l.length (Nat.le_refl _)
  simp only [List.drop_of_length_le (Nat.le_refl l.length), List.drop_zero] at hf
  have hf : Lg50_3 (desc l l.length) (((), (), (), ()), ((n : Int), s, ()), (decide (z < 0), l, ()), (0, ()), ()) = _ := hf
  rw [F50_eq, h95]
  simp only [Option.bind_some]
  refine (congrArg (fun q => Option.bind q _) hD).trans ?_
  simp only [Option.bind_some]
  rw [hf]
  simp only [Option.bind_some, Sum.elim_inl]
  rw [L57_spec hn, hv]
  simp only [Option.bind_some]
  by_cases h : z < 0
  · rw [if_pos (decide_eq_true h), wu64, show (0 - (z.natAbs : Int) % 18446744073709551616) % 18446744073709551616 = z % 18446744073709551616 by omega, and_low hn]
  · rw [if_neg (by simpa using h), show (z.natAbs : Int) = z by omega, and_low hn]
end Go.Proofs.Rf
/- The program's exact integers: compared, parsed. -/
namespace Go.Proofs.Rf
open Go Go.RowKit M

theorem L123_spec (x y : Int) : L123 (x, y, ()) = some ((sgi x y, ()), ()) := by
  show F123 L148 (x, y, ()) = _
  have h : ∀ z : Int, L148 (z, ()) = some ((false, ()), ()) := fun z => by
    show F148 (z, ()) = _
    rw [F148_eq]
    simp
  rw [F123_eq, h, h]
  simp only [Option.bind_some]
  rw [if_neg Bool.false_ne_true, if_neg Bool.false_ne_true]
  unfold sgi
  by_cases h1 : x < y
  · rw [if_pos (decide_eq_true h1), if_pos h1]
  · rw [if_neg (by simpa using h1), if_neg h1]
    by_cases h2 : x = y
    · rw [if_neg (by simp; omega), if_pos h2]
    · rw [if_pos (decide_eq_true (by omega)), if_neg h2]

theorem L124_spec (x y : Int) : L124 (x, y, ()) = some ((sgi x y, ()), ()) := by
  show F124 L149 (x, y, ()) = _
  have h : ∀ z : Int, L149 (z, ()) = some ((false, ()), ()) := fun z => by
    show F149 (z, ()) = _
    rw [F149_eq]
    simp
  rw [F124_eq, h, h]
  simp only [Option.bind_some]
  rw [if_neg Bool.false_ne_true, if_neg Bool.false_ne_true]
  unfold sgi
  by_cases h1 : x < y
  · rw [if_pos (decide_eq_true h1), if_pos h1]
  · rw [if_neg (by simpa using h1), if_neg h1]
    by_cases h2 : x = y
    · rw [if_neg (by simp; omega), if_pos h2]
    · rw [if_pos (decide_eq_true (by omega)), if_neg h2]

theorem sgi_lt {x y : Int} (h : x < y) : sgi x y = -1 := if_pos h
theorem sgi_eq {x y : Int} (h : x = y) : sgi x y = 0 := by unfold sgi; rw [if_neg (by omega), if_pos h]
theorem sgi_gt {x y : Int} (h : y < x) : sgi x y = 1 := by unfold sgi; rw [if_neg (by omega), if_neg (by omega)]

theorem L94_spec {a b : Nat} (ha : (lim a).length < 1000000000) (_hb : (lim b).length < 1000000000) : L94 (lim a, lim b, ()) = some ((sgi a b, ()), ()) := by
  show F94 L123 Lg94_5 (lim a, lim b, ()) = _
  rw [F94_eq, L123_spec]
  simp only [Option.bind_some]
  rcases Nat.lt_trichotomy (lim a).length (lim b).length with hl | hl | hl
  · rw [sgi_lt (show ((lim a).length : Int) < ((lim b).length : Int) by omega), sgi_lt (show (a : Int) < (b : Int) by have := lim_shorter hl; omega)]
    exact if_pos (by decide)
  · rw [sgi_eq (show ((lim a).length : Int) = ((lim b).length : Int) by omega), wi (by omega) (by omega)]
    refine (if_neg (by decide)).trans ?_
    obtain ⟨z, h1, hz⟩ := limL_ind (f := S94_5 L124) (fun x => (x.1.2.2.1 + 1).toNat)
      (fun x => ∃ k : Nat, x = ((lim a, lim b, (k : Int) - 1, ()), ()) ∧ k ≤ (lim a).length ∧ (lim a).drop k = (lim b).drop k)
      (fun z => (z = .inl ((-1, ()), ()) ∧ a < b) ∨ (z = .inl ((1, ()), ()) ∧ b < a) ∨ (z = .inr ((), ()) ∧ a = b)) (by
      rintro x ⟨k, rfl, hk, he⟩
      rw [S94_5_eq]
      rcases Nat.eq_zero_or_pos k with rfl | hp
      · right
        rw [List.drop_zero, List.drop_zero] at he
        exact ⟨_, if_neg (by simp), .inr (.inr ⟨rfl, lim_inj he⟩)⟩
      · obtain ⟨k, rfl⟩ : ∃ k', k = k' + 1 := ⟨k - 1, by omega⟩
        have e1 : ((k + 1 : Nat) : Int) - 1 = (k : Int) := by omega
        have e2 : IntKind.i64.wrap ((k : Int) - 1) = (k : Int) - 1 := wi (by omega) (by omega)
        rw [e1, if_pos (decide_eq_true (by omega)), if_pos (by omega), if_pos (by omega), if_pos (by omega), if_pos (by omega), Int.toNat_natCast, L124_spec, e2]
        simp only [Option.bind_some]
        rcases Int.lt_trichotomy ((lim a).getD k 0) ((lim b).getD k 0) with h2 | h2 | h2
        · rw [sgi_lt h2]
          have h3 := lt_at (Wf_lim a) (Wf_lim b) (k := k) (by omega) (by omega) he h2
          rw [val_lim, val_lim] at h3
          exact .inr ⟨_, if_pos (by decide), .inl ⟨rfl, by omega⟩⟩
        · rw [sgi_eq h2]
          refine .inl ⟨_, if_neg (by decide), ⟨k, rfl, by omega, ?_⟩, by simp only; omega⟩
          rw [drop_at (l := lim a) (by omega), drop_at (l := lim b) (by omega), he, h2]
        · rw [sgi_gt h2]
          have h3 := lt_at (Wf_lim b) (Wf_lim a) (k := k) (by omega) (by omega) he.symm h2
          rw [val_lim, val_lim] at h3
          exact .inr ⟨_, if_pos (by decide), .inr (.inl ⟨rfl, by omega⟩)⟩) ((lim a, lim b, ((lim a).length : Int) - 1, ()), ()) ⟨(lim a).length, rfl, Nat.le_refl _, by rw [List.drop_of_length_le (Nat.le_refl _), List.drop_of_length_le (by omega)]⟩
    have h1 : Lg94_5 ((lim a, lim b, ((lim a).length : Int) - 1, ()), ()) = _ := h1
    rw [h1]
    rcases hz with ⟨rfl, h⟩ | ⟨rfl, h⟩ | ⟨rfl, h⟩
    · rw [sgi_lt (by omega)]; rfl
    · rw [sgi_gt (by omega)]; rfl
    · rw [sgi_eq (by omega)]; rfl
  · rw [sgi_gt (show ((lim b).length : Int) < ((lim a).length : Int) by omega), sgi_gt (show (b : Int) < (a : Int) by have := lim_shorter hl; omega)]
    exact if_pos (by decide)

theorem L49_spec {x y : Int} (hx : Sz 1000000 x) (hy : Sz 1000000 y) : L49 (zl x, zl y, ()) = some ((sgi x y, ()), ()) := by
  unfold Sz at hx hy
  show F49 L94 ((decide (x < 0), lim x.natAbs), (decide (y < 0), lim y.natAbs), ()) = _
  rw [F49_eq]
  by_cases hs : decide (x < 0) = decide (y < 0)
  · have hs' := decide_eq_decide.1 hs
    rw [if_neg (by rw [hs]; simp), L94_spec (by omega) (by omega)]
    simp only [Option.bind_some]
    by_cases h : x < 0
    · rw [if_pos (decide_eq_true h)]
      have e : ∀ c : Int, (c = -1 ∨ c = 0 ∨ c = 1) → IntKind.i64.wrap (0 - c) = -c := by
        intro c hc
        rw [wi (by omega) (by omega)]; omega
      rcases Int.lt_trichotomy x y with q | q | q
      · rw [sgi_gt (show (y.natAbs : Int) < (x.natAbs : Int) by omega), sgi_lt q, e _ (by omega)]
      · rw [sgi_eq (show (x.natAbs : Int) = (y.natAbs : Int) by omega), sgi_eq q, e _ (by omega)]; rfl
      · rw [sgi_lt (show (x.natAbs : Int) < (y.natAbs : Int) by omega), sgi_gt q, e _ (by omega)]; rfl
    · rw [if_neg (by simpa using h), show (x.natAbs : Int) = x by omega, show (y.natAbs : Int) = y by omega]
  · have hs' : ¬ (x < 0 ↔ y < 0) := fun q => hs (decide_eq_decide.2 q)
    rw [if_pos (by rw [Bool.not_eq_true', beq_eq_false_iff_ne]; exact hs)]
    by_cases h : x < 0
    · rw [if_pos (decide_eq_true h), sgi_lt (by omega)]
    · rw [if_neg (by simpa using h), sgi_gt (by omega)]

/-! ### Pieces of nine digits -/
theorem B142_eq (s : List UInt8) : B142 (((), ()), ((s, ()), ())) = (
  some (((), (↑s.length : Int), ()), (s, ()), ()) : Option head142.den) := by kernel_rfl
theorem Y142_eq (i3 : Int) (s : List UInt8) : Y142 (((), i3, ()), ((s, ()), ())) = (
  if decide (i3 > 0) = true then
    if 0 ≤ imax 0 (IntKind.i64.wrap (i3 - 9)) then
      if imax 0 (IntKind.i64.wrap (i3 - 9)) ≤ i3 then
        if i3 ≤ (↑s.length : Int) then
          some (RY.yl (List.drop (imax 0 (IntKind.i64.wrap (i3 - 9))).toNat (List.take i3.toNat s)) (((), IntKind.i64.wrap (i3 - 9), ()), (s, ()), ()))
        else none
      else none
    else none
  else some RY.done : Option (RY head142.den El142)) := by kernel_rfl
end Go.Proofs.Rf
/- The program's exact integers: parsed. -/
namespace Go.Proofs.Rf
open Go Go.RowKit M

/-- The pieces of nine digits below a place, the lowest first. -/
def pcs (s : List UInt8) (e : Nat) : List (List UInt8) := if h : e = 0 then [] else (s.take e).drop (e - 9) :: pcs s (e - 9)
termination_by e
decreasing_by omega

theorem pcs_zero (s : List UInt8) : pcs s 0 = [] := by rw [pcs]; simp
theorem pcs_pos {s : List UInt8} {e : Nat} (h : e ≠ 0) : pcs s e = (s.take e).drop (e - 9) :: pcs s (e - 9) := by rw [pcs, dif_neg h]

theorem Y142_done {s : List UInt8} {e : Int} (h : e ≤ 0) : Y142 (((), e, ()), ((s, ()), ())) = some RY.done := by
  rw [Y142_eq, if_neg (by rw [decide_eq_true_eq]; omega)]

theorem Y142_go {s : List UInt8} {e : Nat} (h0 : e ≠ 0) (h : e ≤ s.length) (hl : s.length < 1000000000) : Y142 (((), (e : Int), ()), ((s, ()), ())) = some (RY.yl ((s.take e).drop (e - 9)) (((), (e : Int) - 9, ()), ((s, ()), ()))) := by
  have e1 : IntKind.i64.wrap ((e : Int) - 9) = (e : Int) - 9 := wi (by omega) (by omega)
  have e2 : imax 0 ((e : Int) - 9) = ((e - 9 : Nat) : Int) := by unfold imax; split <;> omega
  rw [Y142_eq, e1, e2, if_pos (decide_eq_true (by omega)), if_pos (by omega), if_pos (by omega), if_pos (by omega), Int.toNat_natCast, Int.toNat_natCast]

theorem colY_pcs {s : List UInt8} (hl : s.length < 1000000000) : ∀ (k e : Nat), e ≤ s.length → (pcs s e).length + 1 ≤ k → ∀ i : Int, (i = (e : Int) ∨ (e = 0 ∧ i ≤ 0)) → colY Y142 k (((), i, ()), ((s, ()), ())) = some (pcs s e) := by
  intro k
  induction k with
  | zero => intro e _ hk; omega
  | succ k ih =>
    intro e he hk i hi
    by_cases h0 : e = 0
    · subst h0
      unfold colY
      rw [Y142_done (by omega), pcs_zero]
    · obtain rfl : i = (e : Int) := by omega
      rw [pcs_pos h0] at hk ⊢
      simp only [List.length_cons] at hk
      unfold colY
      rw [Y142_go h0 he hl]
      simp only
      rw [ih (e - 9) (by omega) (by omega) _ (by omega)]

theorem LD142_spec {s : List UInt8} (hl : s.length < 1000000000) : LD142 (((), ()), ((s, ()), ())) = some (pcs s s.length) := by
  refine colLim_some ((pcs s s.length).length + 1) ?_
  show (B142 (((), ()), ((s, ()), ()))).bind _ = _
  rw [B142_eq]
  exact colY_pcs hl _ _ (Nat.le_refl _) (Nat.le_refl _) _ (.inl rfl)

theorem IsD_pcs {s : List UInt8} (hd : IsD s) : ∀ e, e ≤ s.length → ∀ p ∈ pcs s e, IsD p ∧ 0 < p.length ∧ p.length ≤ 9 := by
  intro e
  induction e using Nat.strongRecOn with
  | _ e ih =>
    intro he p hp
    by_cases h0 : e = 0
    · subst h0
      rw [pcs_zero] at hp
      cases hp
    · rw [pcs_pos h0] at hp
      rcases List.mem_cons.1 hp with rfl | hp
      · refine ⟨(hd.take e).drop (e - 9), ?_, ?_⟩
        · rw [List.length_drop, List.length_take]; omega
        · rw [List.length_drop, List.length_take]; omega
      · exact ih (e - 9) (by omega) (by omega) p hp

theorem pcs_length (s : List UInt8) (e : Nat) : (pcs s e).length ≤ e := by
  induction e using Nat.strongRecOn with
  | _ e ih =>
    by_cases h0 : e = 0
    · subst h0; rw [pcs_zero]; exact Nat.le_refl 0
    · have := ih (e - 9) (by omega)
      rw [pcs_pos h0, List.length_cons]
      omega

theorem val_pcs (s : List UInt8) : ∀ e, e ≤ s.length → val ((pcs s e).map fun p => ((dv p : Nat) : Int)) = ((dv (s.take e) : Nat) : Int) := by
  intro e
  induction e using Nat.strongRecOn with
  | _ e ih =>
    intro he
    by_cases h0 : e = 0
    · subst h0
      rw [pcs_zero]
      rfl
    · rw [pcs_pos h0, List.map_cons, val, ih (e - 9) (by omega) (by omega)]
      have h1 : s.take e = s.take (e - 9) ++ (s.take e).drop (e - 9) := by
        conv => lhs; rw [← List.take_append_drop (e - 9) (s.take e)]
        rw [List.take_take, Nat.min_eq_left (by omega)]
      have h2 := congrArg dv h1
      rw [dv_append] at h2
      rw [h2]
      by_cases h9 : 9 ≤ e
      · have hl : ((s.take e).drop (e - 9)).length = 9 := by rw [List.length_drop, List.length_take]; omega
        rw [hl]
        simp only [Int.natCast_add, Int.natCast_mul]
        have : ((10 ^ 9 : Nat) : Int) = 1000000000 := by decide
        rw [this]
        omega
      · rw [show e - 9 = 0 by omega, List.take_zero]
        simp [dv]

theorem Wf_pcs {s : List UInt8} (hd : IsD s) (e : Nat) (he : e ≤ s.length) : Wf ((pcs s e).map fun p => ((dv p : Nat) : Int)) := by
  intro x hx
  obtain ⟨p, hp, rfl⟩ := List.mem_map.1 hx
  obtain ⟨h1, h2, h3⟩ := IsD_pcs hd e he p hp
  have h4 := dv_lt h1
  have h5 : 10 ^ p.length ≤ 10 ^ 9 := Nat.pow_le_pow_right (by decide) h3
  omega

theorem S81_fold {neg : Bool} {a : Bool × List Int} : ∀ (xs : List (List UInt8)) (r : List Int), (∀ p ∈ xs, IsD p ∧ 0 < p.length ∧ p.length ≤ 9) → r.length + xs.length ≤ 4294967296 →
    Lg81_4 xs (((), (), ()), ((a.1, a.2, ()), (neg, (), ()), r, ())) = some (.inl (((), (), ()), ((a.1, a.2, ()), (neg, (), ()), r ++ xs.map fun p => ((dv p : Nat) : Int), ())))
  | [], r, _, _ => by
    rw [List.map_nil, List.append_nil]
    rfl
  | p :: xs, r, hp, hl => by
    obtain ⟨h1, h2, h3⟩ := hp p (by simp)
    have h4 := dv_lt h1
    have h5 : 10 ^ p.length ≤ 10 ^ 9 := Nat.pow_le_pow_right (by decide) h3
    have hl : r.length + (xs.length + 1) ≤ 4294967296 := hl
    have hs : S81_4 L90 p (((), (), ()), ((a.1, a.2, ()), (neg, (), ()), r, ())) = some (.inl (((), (), ()), ((a.1, a.2, ()), (neg, (), ()), r ++ [((dv p : Nat) : Int)], ()))) := by
      rw [S81_4_eq, L90_spec h1 h2 (by omega)]
      simp only [Option.bind_some]
      rw [w32 (n := ((dv p : Nat) : Int)) (by omega) (by omega)]
      exact if_pos (by simp; omega)
    have h6 : Lg81_4 (p :: xs) (((), (), ()), ((a.1, a.2, ()), (neg, (), ()), r, ())) = Lg81_4 xs (((), (), ()), ((a.1, a.2, ()), (neg, (), ()), r ++ [((dv p : Nat) : Int)], ())) := foldR_cons hs
    rw [h6]
    have := S81_fold (neg := neg) (a := a) xs (r ++ [((dv p : Nat) : Int)]) (fun q hq => hp q (by simp [hq])) (by simp; omega)
    rw [List.map_cons, show r ++ ((dv p : Nat) : Int) :: List.map (fun p => ((dv p : Nat) : Int)) xs = r ++ [((dv p : Nat) : Int)] ++ List.map (fun p => ((dv p : Nat) : Int)) xs by simp]
    exact this

theorem body_str (z : Int) : body (str z) = dec z.natAbs ∧ isNeg (str z) = decide (z < 0) := by
  have hn : ∀ n, isNeg (dec n) = false := by
    intro n
    have h := dec_head45 n
    unfold isNeg
    cases hd : dec n with
    | nil => exact absurd hd (dec_ne n)
    | cons c t =>
      rw [hd] at h
      rw [beq_eq_false_iff_ne]
      intro e
      apply h
      have e : c = 45 := e
      rw [e]
      rfl
  unfold body str
  by_cases h : z < 0
  · rw [if_pos h, decide_eq_true h]
    exact ⟨rfl, rfl⟩
  · rw [if_neg h, decide_eq_false h, hn]
    exact ⟨rfl, rfl⟩

theorem L81_str {z : Int} (hz : (dec z.natAbs).length < 1000000) : L81 (str z, ()) = some ((zl z, ()), ()) := by
  obtain ⟨h1, h2⟩ := body_str z
  show F81 L88 L115 L118 LD142 Lg81_4 (str z, ()) = _
  have hd := dec_IsD z.natAbs
  have hv := val_pcs (dec z.natAbs) (dec z.natAbs).length (Nat.le_refl _)
  rw [List.take_of_length_le (Nat.le_refl _), dv_dec] at hv
  have hw := Wf_pcs hd _ (Nat.le_refl _)
  have hi := IsD_pcs hd _ (Nat.le_refl _)
  have hlp := pcs_length (dec z.natAbs) (dec z.natAbs).length
  have h118 : L118 (dec z.natAbs, ()) = some ((((), ()), ()), (dec z.natAbs, ()), ()) := F118_eq _
  have hD : LD142 (((), ()), (dec z.natAbs, ()), ()) = _ := LD142_spec (by omega)
  generalize dec z.natAbs = s at *
  generalize pcs s s.length = xs at *
  rw [F81_eq, L88_spec, h1, h2]
  simp only [Option.bind_some]
  rw [h118]
  simp only [Option.bind_some]
  refine (congrArg (fun q => Option.bind q _) hD).trans ?_
  simp only [Option.bind_some]
  have hf := S81_fold (neg := decide (z < 0)) (a := (false, [])) xs [] hi (by simp; omega)
  refine (congrArg (fun q => Option.bind q _) hf).trans ?_
  simp only [Option.bind_some, Sum.elim_inl, List.nil_append]
  rw [L115_spec hw (by simp; omega), hv, Int.toNat_natCast, sgn_zl]
  rfl
end Go.Proofs.Rf
/- FromInt, Wrap, Saturate in both texts. -/
namespace Go.Proofs.Rf
open Go Go.RowKit

/-- The error of a type's name and an exact integer. -/
def eTS (t s : List UInt8) : Int := if tyErr t = 0 then ciErr s else tyErr t

theorem eTS_0 {t s : List UInt8} (h : eTS t s = 0) : tyErr t = 0 ∧ ciErr s = 0 := by
  unfold eTS at h
  by_cases h1 : tyErr t = 0
  · rw [if_pos h1] at h; exact ⟨h1, h⟩
  · rw [if_neg h1] at h; exact absurd h h1

/-- Lengths of exact integers, in both bases. -/
theorem szD {z : Int} (h : (dec z.natAbs).length ≤ 100) : D.Sz 101 z := by
  unfold D.Sz
  have h1 := dv_lt (dec_IsD z.natAbs)
  rw [dv_dec] at h1
  refine D.lim_length_of (Nat.lt_of_lt_of_le h1 (Nat.pow_le_pow_right (by decide) (by omega)))

theorem szM {z : Int} {k : Nat} (h : D.Sz k z) : M.Sz k z := by
  unfold D.Sz at h
  unfold M.Sz
  have h1 := D.lim_lt z.natAbs
  have h2 := Nat.pow_le_pow_right (n := 10) (by decide) h
  have h3 := Nat.pow_le_pow_left (show 10 ≤ 1000000000 by decide) k
  exact M.lim_length_of (by omega)

theorem L47_spec (t s : List UInt8) : L47 (t, s, ()) = some ((if eTS t s = 0 then ((((tyN t : Int), tyS t), M.zl (sv s), 0, ())) else ((0, false), (false, []), eTS t s, ())), ()) := by
  show F47 L41 L42 L55 L81 (t, s, ()) = _
  rw [F47_eq, L42_spec, L41_spec]
  simp only [Option.bind_some]
  by_cases h1 : tyErr t = 0
  · rw [if_pos h1]
    refine (congrArg (fun q => Option.bind q _) (L55_two 0 (ciErr s))).trans ?_
    simp only [Option.bind_some, if_true]
    by_cases h2 : ciErr s = 0
    · have h3 : eTS t s = 0 := by unfold eTS; rw [if_pos h1, h2]
      obtain ⟨h4, h5⟩ := ci_str h2
      rw [h2, if_pos h3]
      refine (if_neg (by decide)).trans ?_
      have hp : L81 (s, ()) = some ((M.zl (sv s), ()), ()) := by
        conv => lhs; rw [h4]
        exact L81_str (by omega)
      rw [hp]
      rfl
    · have h3 : eTS t s = ciErr s := by unfold eTS; rw [if_pos h1]
      rw [h3, if_neg h2]
      exact if_pos (by rw [Bool.not_eq_true', beq_eq_false_iff_ne]; exact h2)
  · have h3 : eTS t s = tyErr t := by unfold eTS; rw [if_neg h1]
    rw [if_neg h1, h3, if_neg h1]
    refine (congrArg (fun q => Option.bind q _) (L55_two (tyErr t) (ciErr s))).trans ?_
    simp only [Option.bind_some]
    rw [if_neg h1]
    exact if_pos (by rw [Bool.not_eq_true', beq_eq_false_iff_ne]; exact h1)

/-- The nearest value. -/
def near (z : Int) (n : Nat) (s : Bool) : Int := if z < lo n s then lo n s else if hi n s < z then hi n s else z

theorem lo_len {n : Nat} {s : Bool} (h : n ≤ 64) : (dec (lo n s).natAbs).length < 1000000 := by
  have : (lo n s).natAbs < 10 ^ 21 := by
    unfold lo
    have h1 := pow_le64 (n := n - 1) (by omega)
    split
    · rw [Int.natAbs_neg, Int.natAbs_natCast]; omega
    · decide
  have := dec_length_le this (by decide)
  omega
theorem hi_len {n : Nat} {s : Bool} (h : n ≤ 64) : (dec (hi n s).natAbs).length < 1000000 := by
  have : (hi n s).natAbs < 10 ^ 21 := by
    unfold hi
    have h1 := pow_le64 (n := n - 1) (by omega)
    have h2 := pow_le64 h
    split <;> omega
  have := dec_length_le this (by decide)
  omega

theorem sgi_neg_iff {x y : Int} : decide (sgi x y < 0) = decide (x < y) := by
  rw [decide_eq_decide]
  unfold sgi
  split
  · simp_all
  · split <;> simp_all
theorem sgi_pos_iff {x y : Int} : decide (sgi x y > 0) = decide (y < x) := by
  rw [decide_eq_decide]
  rcases Int.lt_trichotomy x y with h | h | h
  · rw [sgi_lt h]; omega
  · rw [sgi_eq h]; omega
  · rw [sgi_gt h]; omega
theorem sgi_zero_iff {x y : Int} : (!sgi x y == 0) = !decide (x = y) := by
  rcases Int.lt_trichotomy x y with h | h | h
  · rw [sgi_lt h, decide_eq_false (by omega)]; rfl
  · rw [sgi_eq h, decide_eq_true h]; rfl
  · rw [sgi_gt h, decide_eq_false (by omega)]; rfl

theorem L48_spec {z : Int} {n : Nat} {s : Bool} (hn : n ≤ 64) (hs : s = true → 1 ≤ n) (hz : M.Sz 1000000 z) : L48 (((n : Int), s), M.zl z, ()) = some ((M.zl (near z n s), ()), ()) := by
  show F48 L44 L49 L81 (((n : Int), s), ((M.zl z).1, (M.zl z).2), ()) = _
  have hl := L81_str (lo_len (s := s) hn)
  have hh := L81_str (hi_len (s := s) hn)
  have c1 : L49 (M.zl z, M.zl (lo n s), ()) = _ := L49_spec hz ((szM (Sz_lo hn)).mono (by decide))
  have c2 : L49 (M.zl z, M.zl (hi n s), ()) = _ := L49_spec hz ((szM (Sz_hi hn)).mono (by decide))
  rw [F48_eq, L44_spec hn hs]
  simp only [Option.bind_some]
  rw [hl]
  simp only [Option.bind_some]
  rw [hh]
  simp only [Option.bind_some]
  refine (congrArg (fun q => Option.bind q _) c1).trans ?_
  simp only [Option.bind_some, sgi_neg_iff]
  unfold near
  by_cases h1 : z < lo n s
  · rw [if_pos h1]
    exact if_pos (decide_eq_true h1)
  · rw [if_neg h1]
    refine (if_neg (by simpa using h1)).trans ?_
    refine (congrArg (fun q => Option.bind q _) c2).trans ?_
    simp only [Option.bind_some, sgi_pos_iff]
    by_cases h2 : hi n s < z
    · rw [if_pos h2]
      exact if_pos (decide_eq_true h2)
    · rw [if_neg h2]
      exact if_neg (by simpa using h2)

/-! ### FromInt, Wrap, Saturate -/
def wTS (t s : List UInt8) : Int := sv s % ((2 ^ tyN t : Nat) : Int)

theorem near_eq {z : Int} {n : Nat} {s : Bool} : near z n s = z ↔ lo n s ≤ z ∧ z ≤ hi n s := by
  unfold near
  by_cases h1 : z < lo n s
  · rw [if_pos h1]; omega
  · rw [if_neg h1]
    by_cases h2 : hi n s < z
    · rw [if_pos h2]; omega
    · rw [if_neg h2]; omega

def fTS (t s : List UInt8) : Int × Int × Unit :=
  if eTS t s = 0 then (if lo (tyN t) (tyS t) ≤ sv s ∧ sv s ≤ hi (tyN t) (tyS t) then (wTS t s, 0, ()) else (0, 35, ())) else (0, eTS t s, ())
def pTS (t s : List UInt8) : Int × Int × Unit := if eTS t s = 0 then (wTS t s, 0, ()) else (0, eTS t s, ())
def nTS (t s : List UInt8) : Int × Int × Unit := if eTS t s = 0 then (near (sv s) (tyN t) (tyS t) % ((2 ^ tyN t : Nat) : Int), 0, ()) else (0, eTS t s, ())

theorem ne_zero_b {e : Int} (h : e ≠ 0) : (!e == 0) = true := by rw [Bool.not_eq_true', beq_eq_false_iff_ne]; exact h

theorem near_sz {z : Int} {n : Nat} {s : Bool} (hn : n ≤ 64) (hz : D.Sz 101 z) : D.Sz 101 (near z n s) := by
  unfold near
  split
  · exact (Sz_lo hn).mono (by decide)
  · split
    · exact (Sz_hi hn).mono (by decide)
    · exact hz

theorem L17_spec (t s : List UInt8) : L17 (t, s, ()) = some ((fTS t s, ())) := by
  show F17 L47 L48 L49 L50 (t, s, ()) = _
  rw [F17_eq, L47_spec]
  unfold fTS
  simp only [Option.bind_some]
  by_cases h : eTS t s = 0
  · obtain ⟨h1, h2⟩ := eTS_0 h
    obtain ⟨hk, hn, hs⟩ := tyN_le h1
    have hz := szD (ci_str h2).2
    have hzM := szM hz
    rw [if_pos h, if_pos h]
    refine (if_neg Bool.false_ne_true).trans ?_
    refine (congrArg (fun q => Option.bind q _) (L48_spec hn hs (hzM.mono (by decide)))).trans ?_
    simp only [Option.bind_some]
    refine (congrArg (fun q => Option.bind q _) (L49_spec ((szM (near_sz (s := tyS t) hn hz)).mono (by decide)) (hzM.mono (by decide)))).trans ?_
    simp only [Option.bind_some, sgi_zero_iff]
    by_cases hc : lo (tyN t) (tyS t) ≤ sv s ∧ sv s ≤ hi (tyN t) (tyS t)
    · rw [if_pos hc]
      refine (if_neg (by rw [decide_eq_true (near_eq.2 hc)]; decide)).trans ?_
      exact (congrArg (fun q => Option.bind q _) (L50_spec (s := tyS t) hn (hzM.mono (by decide)))).trans rfl
    · rw [if_neg hc]
      exact if_pos (by rw [decide_eq_false (fun q => hc (near_eq.1 q))]; rfl)
  · rw [if_neg h, if_neg h]
    exact if_pos (ne_zero_b h)

theorem L21_spec (t s : List UInt8) : L21 (t, s, ()) = some ((pTS t s, ())) := by
  show F21 L47 L50 (t, s, ()) = _
  rw [F21_eq, L47_spec]
  unfold pTS
  simp only [Option.bind_some]
  by_cases h : eTS t s = 0
  · obtain ⟨h1, h2⟩ := eTS_0 h
    obtain ⟨hk, hn, hs⟩ := tyN_le h1
    have hzM := szM (szD (ci_str h2).2)
    rw [if_pos h, if_pos h]
    refine (if_neg Bool.false_ne_true).trans ?_
    exact (congrArg (fun q => Option.bind q _) (L50_spec (s := tyS t) hn (hzM.mono (by decide)))).trans rfl
  · rw [if_neg h, if_neg h]
    exact if_pos (ne_zero_b h)

theorem L23_spec (t s : List UInt8) : L23 (t, s, ()) = some ((nTS t s, ())) := by
  show F23 L47 L48 L50 (t, s, ()) = _
  rw [F23_eq, L47_spec]
  unfold nTS
  simp only [Option.bind_some]
  by_cases h : eTS t s = 0
  · obtain ⟨h1, h2⟩ := eTS_0 h
    obtain ⟨hk, hn, hs⟩ := tyN_le h1
    have hz := szD (ci_str h2).2
    have hzM := szM hz
    rw [if_pos h, if_pos h]
    refine (if_neg Bool.false_ne_true).trans ?_
    refine (congrArg (fun q => Option.bind q _) (L48_spec hn hs (hzM.mono (by decide)))).trans ?_
    simp only [Option.bind_some]
    exact (congrArg (fun q => Option.bind q _) (L50_spec (s := tyS t) hn ((szM (near_sz (s := tyS t) hn hz)).mono (by decide)))).trans rfl
  · rw [if_neg h, if_neg h]
    exact if_pos (ne_zero_b h)
end Go.Proofs.Rf
/- FromInt, Wrap, Saturate of the reference. -/
namespace Go.Proofs.Rf
open Go Go.RowKit D
end Go.Proofs.Rf
/- ToInt in both texts; the laws of bits. -/
namespace Go.Proofs.Rf
open Go Go.RowKit D

theorem andNot64 {x y : Nat} (hx : x < 18446744073709551616) (hy : y < 18446744073709551616) : bitop .andNot .u64 (x : Int) (y : Int) = ((x - (x &&& y) : Nat) : Int) := by
  show IntKind.u64.wrap ((((BitVec.ofInt 64 (x : Int)) &&& ~~~ (BitVec.ofInt 64 (y : Int))).toNat : Nat) : Int) = _
  have e : ((BitVec.ofInt 64 (x : Int)) &&& ~~~ (BitVec.ofInt 64 (y : Int))).toNat = x - (x &&& y) := by
    have h1 : (BitVec.ofInt 64 (x : Int)).toNat = x := ofInt_toNat 64 x hx
    have h2 : (BitVec.ofInt 64 (y : Int)).toNat = y := ofInt_toNat 64 y hy
    generalize BitVec.ofInt 64 (x : Int) = a at *
    generalize BitVec.ofInt 64 (y : Int) = b at *
    subst h1
    subst h2
    rw [← BitVec.toNat_and]
    have h3 : a = (a &&& b) + (a &&& ~~~ b) := by
      have h4 : (a &&& b) &&& (a &&& ~~~ b) = 0#64 := by
        ext i
        simp
        grind
      rw [BitVec.add_eq_or_of_and_eq_zero _ _ h4]
      ext i
      simp
      grind
    have h5 : (a &&& b).toNat + (a &&& ~~~ b).toNat < 2 ^ 64 := by
      have h4 : (a &&& b) &&& (a &&& ~~~ b) = 0#64 := by
        ext i
        simp
        grind
      have := BitVec.toNat_add_of_and_eq_zero h4
      rw [← this]
      exact BitVec.isLt _
    have h6 : a.toNat = (a &&& b).toNat + (a &&& ~~~ b).toNat := by
      conv => lhs; rw [h3]
      rw [BitVec.toNat_add, Nat.mod_eq_of_lt h5]
    omega
  rw [e]
  exact w64 (by omega) (by omega)

theorem andNot_mask {b n : Nat} (hb : b < 18446744073709551616) (hn : n ≤ 64) : (!bitop BinOp.andNot IntKind.u64 (b : Int) ((2 ^ n - 1 : Nat) : Int) == 0) = decide (2 ^ n ≤ b) := by
  have h2 := pow_le64 hn
  have h3 := Nat.two_pow_pos n
  rw [andNot64 hb (by omega), Nat.and_two_pow_sub_one_eq_mod]
  have h4 := Nat.mod_lt b h3
  have h5 := Nat.mod_le b (2 ^ n)
  by_cases h : 2 ^ n ≤ b
  · rw [decide_eq_true h, Bool.not_eq_true', beq_eq_false_iff_ne]
    omega
  · rw [decide_eq_false h, Nat.mod_eq_of_lt (by omega), Nat.sub_self]
    rfl

/-- The error of ToInt. -/
def eTB (t : List UInt8) (b : Nat) : Int := if tyErr t = 0 then (if 2 ^ tyN t ≤ b then 3 else 0) else tyErr t

/-- The value of bits. -/
def vB (n : Nat) (s : Bool) (b : Nat) : Int := if s = true ∧ 2 ^ (n - 1) ≤ b then (b : Int) - ((2 ^ n : Nat) : Int) else (b : Int)

theorem vB_hi {n : Nat} {s : Bool} {b : Nat} (h : s = true) (k : 2 ^ (n - 1) ≤ b) : vB n s b = (b : Int) - ((2 ^ n : Nat) : Int) := if_pos ⟨h, k⟩
theorem vB_lo {n : Nat} {s : Bool} {b : Nat} (h : ¬ (s = true ∧ 2 ^ (n - 1) ≤ b)) : vB n s b = (b : Int) := if_neg h

def tTB (t : List UInt8) (b : Nat) : List UInt8 × Int × Unit := if eTB t b = 0 then (str (vB (tyN t) (tyS t) b), 0, ()) else ([], eTB t b, ())

theorem top_bit1 {b n : Nat} (hb : b < 2 ^ n) (hn : 1 ≤ n) (h64 : n ≤ 64) : ((b : Int).fdiv (2 ^ min (IntKind.i64.wrap ((n : Int) - 1)).toNat 64) == 1) = decide (2 ^ (n - 1) ≤ b) := by
  obtain ⟨k, rfl⟩ : ∃ k, n = k + 1 := ⟨n - 1, by omega⟩
  have e1 : IntKind.i64.wrap (((k + 1 : Nat) : Int) - 1) = (k : Int) := by rw [wi (by omega) (by omega)]; omega
  rw [e1, Int.toNat_natCast, Nat.min_eq_left (by omega), fdiv_pow, Nat.add_sub_cancel]
  have h3 := Nat.two_pow_pos k
  rw [Nat.pow_succ] at hb
  by_cases h : 2 ^ k ≤ b
  · have h1 : b / 2 ^ k = 1 := by
      have := (Nat.le_div_iff_mul_le h3 (x := 1) (y := b)).2 (by omega)
      have := (Nat.div_lt_iff_lt_mul h3 (x := b) (y := 2)).2 (by omega)
      omega
    rw [decide_eq_true h, h1]
    rfl
  · rw [decide_eq_false h, Nat.div_eq_of_lt (by omega)]
    rfl

theorem L19_spec (t : List UInt8) {b : Nat} (hb : b < 18446744073709551616) : L19 (t, (b : Int), ()) = some ((tTB t b, ())) := by
  show F19 L42 L55 L56 L57 L58 (t, (b : Int), ()) = _
  rw [F19_eq, L42_spec]
  unfold tTB
  simp only [Option.bind_some]
  by_cases h1 : tyErr t = 0
  · obtain ⟨hk, hn, hs⟩ := tyN_le h1
    have hp := pow_le64 hn
    rw [if_pos h1]
    refine (congrArg (fun q => Option.bind q _) (L57_spec hn)).trans ?_
    simp only [Option.bind_some, andNot_mask hb hn]
    rw [L56_spec]
    simp only [Option.bind_some]
    refine (congrArg (fun q => Option.bind q _) (L55_two 0 _)).trans ?_
    simp only [Option.bind_some, if_true, decide_eq_true_eq]
    have he : eTB t b = if 2 ^ tyN t ≤ b then 3 else 0 := if_pos h1
    by_cases h2 : 2 ^ tyN t ≤ b
    · rw [he, if_pos h2, if_neg (show ¬ (3 : Int) = 0 by decide)]
      exact if_pos rfl
    · rw [he, if_neg h2, if_pos rfl]
      refine (if_neg (by decide)).trans ?_
      by_cases hsg : tyS t = true
      · have hn1 := hs hsg
        refine (if_pos hsg).trans ?_
        have e1 : ¬ IntKind.i64.wrap ((tyN t : Int) - 1) < 0 := by rw [wi (by omega) (by omega)]; omega
        refine (if_neg e1).trans ?_
        have htb := top_bit1 (b := b) (n := tyN t) (by omega) hn1 hn
        by_cases h3 : 2 ^ (tyN t - 1) ≤ b
        · rw [vB_hi hsg h3]
          refine (if_pos (htb.trans (decide_eq_true h3))).trans ?_
          refine (congrArg (fun q => Option.bind q _) (L57_spec hn)).trans ?_
          simp only [Option.bind_some]
          have hpos := Nat.two_pow_pos (tyN t - 1)
          have hneg : bitop BinOp.and IntKind.u64 (IntKind.u64.wrap (0 - (b : Int))) ((2 ^ tyN t - 1 : Nat) : Int) = ((2 ^ tyN t - b : Nat) : Int) := by
            rw [wu64, and_low hn]
            have h5 : (0 - (b : Int)) % ((2 ^ tyN t : Nat) : Int) = ((2 ^ tyN t : Nat) : Int) - (b : Int) := by
              rw [← Int.add_emod_right]
              exact Int.emod_eq_of_lt (by omega) (by omega) |>.trans (by omega)
            rw [h5]
            omega
          rw [hneg, L58_spec (by omega)]
          simp only [Option.bind_some]
          have hl := dec_length_le (n := 2 ^ tyN t - b) (k := 20) (Nat.lt_of_le_of_lt (show 2 ^ tyN t - b ≤ 18446744073709551616 by omega) (by decide)) (by decide)
          refine (if_pos (by omega)).trans ?_
          rw [show (b : Int) - ((2 ^ tyN t : Nat) : Int) = -((2 ^ tyN t - b : Nat) : Int) by omega, str_negn (by omega)]
          rfl
        · rw [vB_lo (fun q => h3 q.2)]
          refine (if_neg (by rw [htb, decide_eq_false h3]; decide)).trans ?_
          rw [L58_spec hb, str_nat]
          rfl
      · rw [vB_lo (fun q => hsg q.1)]
        refine (if_neg hsg).trans ?_
        rw [L58_spec hb, str_nat]
        rfl
  · have he : eTB t b = tyErr t := if_neg h1
    rw [if_neg h1, he, if_neg h1]
    have h57 : L57 (0, ()) = some ((((2 ^ 0 - 1 : Nat) : Int), ()), ()) := L57_spec (n := 0) (by decide)
    refine (congrArg (fun q => Option.bind q _) h57).trans ?_
    simp only [Option.bind_some]
    refine (congrArg (fun q => Option.bind q _) (L56_spec _ 3)).trans ?_
    simp only [Option.bind_some]
    refine (congrArg (fun q => Option.bind q _) (L55_two (tyErr t) _)).trans ?_
    simp only [Option.bind_some, if_neg h1]
    exact if_pos (ne_zero_b h1)
end Go.Proofs.Rf
/- ToInt of the reference; the law of bits returns true. -/
namespace Go.Proofs.Rf
open Go Go.RowKit D
end Go.Proofs.Rf
/- The law of inverses returns true. -/
namespace Go.Proofs.Rf
open Go Go.RowKit D

theorem num_dec (n : Nat) : num (dec n) = true := num_iff.2 ⟨dec_IsD n, (dec_NoZ n).1⟩

theorem str_ne (z : Int) : ¬ str z = [45, 48] := by
  intro e
  have h := congrArg sv e
  rw [sv_str] at h
  have h2 : sv [45, 48] = 0 := by decide
  rw [h2] at h
  subst h
  have h3 : str 0 = [48] := (str_nat 0).trans (dec_small (by decide))
  rw [h3] at e
  exact absurd e (by decide)

theorem ci_of_str {z : Int} (h : (dec z.natAbs).length ≤ 100) : ciErr (str z) = 0 := by
  obtain ⟨h1, _⟩ := body_str z
  rw [ciErr_n ⟨by rw [h1]; exact num_dec _, str_ne z⟩, h1, if_neg (by omega)]

theorem vB_range {n b : Nat} {s : Bool} (h1 : s = true → 1 ≤ n) (hb : b < 2 ^ n) : lo n s ≤ vB n s b ∧ vB n s b ≤ hi n s := by
  cases s with
  | false =>
    rw [vB_lo (by simp)]
    unfold lo hi
    rw [if_neg (by decide), if_neg (by decide)]
    omega
  | true =>
    obtain ⟨k, rfl⟩ : ∃ k, n = k + 1 := ⟨n - 1, by have := h1 rfl; omega⟩
    unfold lo hi
    rw [if_pos rfl, if_pos rfl, Nat.add_sub_cancel]
    rw [Nat.pow_succ] at hb
    have h3 := Nat.two_pow_pos k
    by_cases h : 2 ^ k ≤ b
    · rw [vB_hi rfl (by rw [Nat.add_sub_cancel]; exact h), Nat.pow_succ]
      omega
    · rw [vB_lo (by rw [Nat.add_sub_cancel]; exact fun q => h q.2)]
      omega

theorem vB_mod {n b : Nat} {s : Bool} (hb : b < 2 ^ n) : vB n s b % ((2 ^ n : Nat) : Int) = (b : Int) := by
  unfold vB
  split
  · rw [Int.sub_emod_right]
    exact Int.emod_eq_of_lt (by omega) (by omega)
  · exact Int.emod_eq_of_lt (by omega) (by omega)

theorem vB_len {n b : Nat} {s : Bool} (hn : n ≤ 64) (hb : b < 2 ^ n) : (dec (vB n s b).natAbs).length ≤ 100 := by
  have hp := pow_le64 hn
  have h : (vB n s b).natAbs < 10 ^ 20 := by
    unfold vB
    split <;> omega
  have := dec_length_le h (by decide)
  omega

theorem inv_all {t : List UInt8} {b : Nat} (h : tyErr t = 0) (hb : b < 2 ^ tyN t) :
    fTS t (str (vB (tyN t) (tyS t) b)) = ((b : Int), 0, ()) ∧ pTS t (str (vB (tyN t) (tyS t) b)) = ((b : Int), 0, ()) ∧ nTS t (str (vB (tyN t) (tyS t) b)) = ((b : Int), 0, ()) := by
  obtain ⟨hk, hn, hs⟩ := tyN_le h
  have he : eTS t (str (vB (tyN t) (tyS t) b)) = 0 := by
    unfold eTS
    rw [if_pos h]
    exact ci_of_str (vB_len hn hb)
  have hr := vB_range hs hb
  have hm := vB_mod (s := tyS t) hb
  have hnr := near_eq.2 hr
  unfold fTS pTS nTS wTS
  rw [if_pos he, if_pos he, if_pos he, sv_str, if_pos hr, hnr, hm]
  exact ⟨rfl, rfl, rfl⟩

theorem tTB_ok {t : List UInt8} {b : Nat} (h : tyErr t = 0) (hb : b < 2 ^ tyN t) : tTB t b = (str (vB (tyN t) (tyS t) b), 0, ()) := by
  have he : eTB t b = 0 := by unfold eTB; rw [if_pos h, if_neg (by omega)]
  unfold tTB
  rw [if_pos he]

theorem law6_of {A : (SV.denL ps10) → Option (rs10).den} (hA : A () = some ((true, ()), ())) (t : List UInt8) {b : Nat} (hb : b < 18446744073709551616) : F6 L9 A L11 L17 L19 L21 L23 (t, (b : Int), ()) = some ((true, ()), ()) := by
  rw [F6_eq, L9_spec (by simp), hA]
  simp only [Option.bind_some]
  by_cases hsh : shortB [t] = true
  · rw [hsh, if_neg (by decide), L11_spec]
    simp only [Option.bind_some]
    unfold W3
    by_cases h : tyErr t = 0
    · obtain ⟨hk, hn, hs⟩ := tyN_le h
      rw [if_pos h]
      refine (if_neg Bool.false_ne_true).trans ?_
      have hfin : ∀ c : Nat, c < 18446744073709551616 → c < 2 ^ tyN t →
          ((L19 (t, (c : Int), ())).bind fun y =>
           if (!y.1.2.1 == 0) = true then some ((false, ()), ())
           else
            (L17 (t, y.1.1, ())).bind fun y_1 =>
             (L21 (t, y.1.1, ())).bind fun y_2 =>
              (L23 (t, y.1.1, ())).bind fun y =>
               if (IntKind.i64.wrap (IntKind.i64.wrap (y_1.1.2.1 + y_2.1.2.1) + y.1.2.1) == 0) = true then
                if (y_1.1.1 == (c : Int)) = true then
                 if (y_2.1.1 == (c : Int)) = true then
                  if (y.1.1 == (c : Int)) = true then (some ((true, ()), ()) : Option rs6.den)
                  else some ((false, ()), ())
                 else some ((false, ()), ())
                else some ((false, ()), ())
               else some ((false, ()), ())) = some ((true, ()), ()) := by
        intro c hc1 hc2
        obtain ⟨q1, q2, q3⟩ := inv_all h hc2
        rw [L19_spec t hc1, tTB_ok h hc2]
        simp only [Option.bind_some]
        refine (if_neg (by decide)).trans ?_
        rw [L17_spec, L21_spec, L23_spec, q1, q2, q3]
        simp only [Option.bind_some, beq_self_eq_true, if_true]
        rfl
      by_cases h64 : tyN t < 64
      · refine (if_pos (decide_eq_true (show ((tyN t : Nat) : Int) < 64 by omega))).trans ?_
        refine (if_neg (show ¬ ((tyN t : Nat) : Int) < 0 by omega)).trans ?_
        have hm : IntKind.u64.wrap (IntKind.u64.wrap (1 * 2 ^ min (Int.toNat (tyN t : Int)) 64) - 1) = ((2 ^ tyN t - 1 : Nat) : Int) := mask_u hn
        have hbm : bitop BinOp.and IntKind.u64 (b : Int) ((2 ^ tyN t - 1 : Nat) : Int) = ((b % 2 ^ tyN t : Nat) : Int) := by
          have := and_low (x := (b : Int)) hn
          rw [Int.emod_eq_of_lt (by omega) (by omega)] at this
          rw [this, Int.natCast_emod]
        have h3 := Nat.mod_lt b (Nat.two_pow_pos (tyN t))
        have h4 := Nat.mod_le b (2 ^ tyN t)
        have hgo := hfin (b % 2 ^ tyN t) (by omega) h3
        rw [← hbm, ← hm] at hgo
        exact hgo
      · refine (if_neg (show ¬ decide (((tyN t : Nat) : Int) < 64) = true by rw [decide_eq_true_eq]; omega)).trans ?_
        exact hfin b hb (by rw [show tyN t = 64 by omega]; exact hb)
    · rw [if_neg h]
      exact if_pos (ne_zero_b h)
  · rw [Bool.eq_false_iff.2 hsh]
    rfl

noncomputable def law6 : (SV.denL ps6) → Option (rs6).den := F6 L9 K10 L11 L17 L19 L21 L23
theorem law6_ok : CallOK Tryz.prog 6 (mkCall ps6 rs6 law6) := call6 okK10 okL11 okL17 okL19 okL21 okL23 okL9
theorem law6_nat (t : List UInt8) {b : Nat} (hb : b < 18446744073709551616) : law6 (t, (b : Int), ()) = some ((true, ()), ()) := law6_of K10_val t hb
end Go.Proofs.Rf
/- Rf, part H: from a law's contract to what a given statement asks of its walk. -/
namespace Go.Proofs.Rf
open Go Go.RowKit

def iNone : Nat → Option Value := fun _ => none
def cDead : Nat → Blk := fun _ => .dead

theorem owned_none {ι : Nat → Option Value} {b : Nat} : ¬ owned ι cDead b := by
  rintro ⟨k, hk⟩
  rw [bk_dead rfl] at hk
  cases hk

/-- A world of which nothing is the call's own. -/
theorem HRel.start (w : World) (hg : GlOK w (fun b => b < w.heap.size)) : HRel (fun _ => False) (fun b => b < w.heap.size) w iNone cDead w :=
  ⟨fun k => trivial, fun k k' b h1 _ => (by rw [bk_dead rfl] at h1; cases h1), Kept.refl _ _, fun b hb => (owned_none hb).elim, fun b hb => hb, fun b hb => (owned_none hb).elim, fun b hb => hb.elim, hg.mono fun g q => ⟨⟨q, owned_none, fun q => q⟩, rfl⟩⟩

/-- A law that is handed data and returns true. -/
theorem law_walk {P : Program} {f : Nat} {ps : List SV} {F : SV.denL ps → Option (Shape.den ⟨[(0, .d false .bool)], []⟩)} (h : CallOK P f (mkCall ps ⟨[(0, .d false .bool)], []⟩ F)) (w : World) {args : List AV} {vs : List Value} {x : SV.denL ps} {fz : List (Nat × Blk)}
    (ht : SV.takeL cDead [] ps args = some (x, fz)) (hF : F x = some ((true, ()), ())) (hrel : RelL w (fun b => b < w.heap.size) iNone args vs) (hg : GlOK w (fun b => b < w.heap.size)) : Calls P f vs.toArray w fun e w' => e = .returned (.bool true) ∧ Below w.heap.size w w' := by
  have hok : okb (fun _ => False) w iNone cDead = fun b => b < w.heap.size := by
    funext b
    exact propext ⟨fun q => q.1, fun q => ⟨q, owned_none, fun q => q⟩⟩
  have hco : mkCall ps ⟨[(0, .d false .bool)], []⟩ F args cDead 0 Eff some = some ⟨.d .bool true, [], []⟩ := by
    unfold mkCall
    rw [ht]
    simp only [hF]
    rfl
  refine (h.run _ _ w w iNone cDead 0 args vs _ (HRel.start w hg) (by rw [hok]; exact hrel) hco (fun _ _ _ => rfl)).mono ?_
  rintro e w' ⟨v, rfl, ι', H, E, hv, _⟩
  have hv := rel_bool.1 hv
  exact ⟨by rw [hv], H.fr.os, H.fr.tape, H.fr.output, H.fr.size, fun i hi => H.fr.block i hi hi⟩
end Go.Proofs.Rf
/- Rf, part I: what a given statement hands to a law: data of the law's types, read off the world; and how it reads behind the call. -/
namespace Go.Proofs.Rf
open Go Go.RowKit Go.ChangeShapes Go.WideShapes

/-- A kind of numbers holds a number. -/
def fitK (k : IntKind) (n : Int) : Prop := k.min ≤ n ∧ n ≤ k.max

/-- Numbers fit their kinds; what is long is not too long. -/
def Ty.fit : (t : Ty) → t.den → Prop
  | .int k, n => fitK k n
  | .str, s => s.length ≤ maxLen
  | .sl t, xs => xs.length ≤ maxLen ∧ ∀ x ∈ xs, t.fit x
  | .pr a b, x => a.fit x.1 ∧ b.fit x.2
  | _, _ => True

def tyFs (g : Nat → Option Ty) (c : Nat → Nat) : Nat → List Field → Option (List Ty)
  | _, [] => some []
  | o, f :: r => match g f.type with
    | some ty => if (Nat.beq f.offset o && Nat.beq (c f.type) ty.size) = true then (match tyFs g c (o + ty.size) r with
      | some ts => some (ty :: ts)
      | none => none) else none
    | none => none

/-- The shape of data of a type, where its parts lie one behind the other. -/
def goodTy (P : Program) : Nat → Nat → Option Ty
  | 0, _ => none
  | k + 1, t => match P.underlying t with
    | some (.int i) => some (.int i)
    | some .bool => some .bool
    | some .string => some .str
    | some (.slice e) => (match goodTy P k e with
      | some ty => if (Nat.blt 0 ty.size && Nat.beq (P.cellsOf e) ty.size) = true then some (.sl ty) else none
      | none => none)
    | some (.struct fields) => (match tyFs (goodTy P k) P.cellsOf 0 fields.toList with
      | some ts => if Nat.beq (P.cellsOf t) (prL ts).size = true then some (prL ts) else none
      | none => none)
    | _ => none

section
variable {H : Type} {enc : TypeId × Value → H} {P : Program} {w : World} {sp : Nat → Bool} {held : Bool}

theorem cells_get {a : Addr} {n : Nat} {cs : List Value} (h : w.cells? 0 a n = some cs) : cs.length = n ∧ ∀ j u, cs[j]? = some u → w.cell? (a.add j) = some u := by
  unfold World.cells? at h
  rw [if_pos (Nat.zero_le _)] at h
  have hl := mapM_some_length h
  rw [List.length_range] at hl
  refine ⟨hl, fun j u hu => ?_⟩
  have hj : j < n := by
    rw [← hl]
    exact (List.getElem?_eq_some_iff.1 hu).1
  have := mapM_some_get h j j (by simp [hj])
  rw [hu] at this
  exact this

theorem add_plain (g o j : Nat) : Addr.add ⟨g, o, none⟩ j = ⟨g, o + j, none⟩ := by
  unfold Addr.add
  split
  · rename_i h
    rw [h]; rfl
  · rfl

theorem add_two (a : Addr) {m r j : Nat} (h : m + r = j) : (a.add m).add r = a.add j := by
  subst h
  unfold Addr.add
  by_cases h1 : m = 0
  · subst h1
    simp
  · by_cases h2 : r = 0
    · subst h2
      simp [h1]
    · rw [if_neg h1, if_neg h2, if_neg (by omega), Nat.add_assoc]

theorem cell_place {a : Addr} {u : Value} (h : w.cell? a = some u) : a.spot = none ∧ a.block < w.heap.size := by
  refine ⟨World.cell?_spot h, ?_⟩
  unfold World.cell? at h
  split at h
  · rename_i h1
    exact (Array.getElem?_eq_some_iff.1 h1).1
  · cases h

/-- A row of equal parts. -/
theorem rowL {α : Type} {D : α → List Value → Prop} {Q : α → Prop} {n : Nat} (at_ : Nat → Option (List Value)) : ∀ (len k : Nat), (∀ i, i < len → ∃ cs x, at_ (k + i) = some cs ∧ cs.length = n ∧ D x cs ∧ Q x) →
    ∃ (xs : List α) (cs : List Value), xs.length = len ∧ RzL D xs cs ∧ cs.length = len * n ∧ (∀ x ∈ xs, Q x) ∧ ∀ i j c, i < len → at_ (k + i) = some c → j < n → cs[i * n + j]? = c[j]?
  | 0, k, _ => ⟨[], [], rfl, rfl, by simp, by simp, fun i j c hi => by omega⟩
  | len + 1, k, h => by
    obtain ⟨c0, x0, h0, hl0, hd0, hq0⟩ := h 0 (by omega)
    obtain ⟨xs, cs, hxl, hr, hcl, hq, hg⟩ := rowL at_ len (k + 1) (fun i hi => by
      obtain ⟨c, x, h1, h2⟩ := h (i + 1) (by omega)
      exact ⟨c, x, by rw [show k + 1 + i = k + (i + 1) by omega]; exact h1, h2⟩)
    refine ⟨x0 :: xs, c0 ++ cs, by simp [hxl], ⟨c0, cs, rfl, hd0, hr⟩, by rw [List.length_append, hl0, hcl, Nat.add_mul]; omega, ?_, ?_⟩
    · intro x hx
      rcases List.mem_cons.1 hx with rfl | hx
      · exact hq0
      · exact hq x hx
    · intro i j c hi hc hj
      cases i with
      | zero =>
        rw [Nat.add_zero] at h0 hc
        rw [h0] at hc
        cases hc
        rw [Nat.zero_mul, Nat.zero_add, List.getElem?_append_left (by omega)]
      | succ i =>
        rw [List.getElem?_append_right (by rw [hl0, Nat.add_mul]; omega), show (i + 1) * n + j - c0.length = i * n + j by rw [hl0, Nat.add_mul]; omega]
        exact hg i j c (by omega) (by rw [show k + 1 + i = k + (i + 1) by omega]; exact hc) hj

/-- The parts of a struct. -/
theorem fields_open {g : Nat → Option Ty} {c : Nat → Nat} {cs : List Value} {D : Nat → List Value → Prop} (ho : ∀ t ty us, g t = some ty → D t us → ∃ x : ty.den, Rz w (fun b => b < w.heap.size) ty x us ∧ ty.fit x) :
    ∀ (fs : List Field) (ts : List Ty) (o : Nat), tyFs g c o fs = some ts → (∀ f ∈ fs, D f.type ((cs.drop f.offset).take (c f.type))) → (cs.drop o).length = (prL ts).size →
      ∃ x : (prL ts).den, Rz w (fun b => b < w.heap.size) (prL ts) x (cs.drop o) ∧ (prL ts).fit x
  | [], ts, o, ht, _, hl => by
    cases ht
    exact ⟨(), List.eq_nil_of_length_eq_zero hl, trivial⟩
  | f :: r, ts, o, ht, hD, hl => by
    unfold tyFs at ht
    split at ht
    · rename_i ty hty
      split at ht
      · rename_i hc
        split at ht
        · rename_i ts' hts
          cases ht
          simp only [Bool.and_eq_true] at hc
          have ho' := Nat.eq_of_beq_eq_true hc.1
          have hs := Nat.eq_of_beq_eq_true hc.2
          have hd := hD f (by simp)
          rw [ho', hs] at hd
          obtain ⟨x, hx, hf⟩ := ho _ _ _ hty hd
          cases ts' with
          | nil =>
            have hl : _ = ty.size := hl
            rw [List.take_of_length_le (by omega)] at hx
            exact ⟨x, hx, hf⟩
          | cons b r' =>
            have hl : _ = ty.size + (prL (b :: r')).size := hl
            obtain ⟨y, hy, hg⟩ := fields_open ho r (b :: r') (o + ty.size) hts (fun f hf => hD f (by simp [hf])) (by rw [← List.drop_drop, List.length_drop]; omega)
            exact ⟨(x, y), ⟨_, _, by rw [← List.drop_drop, List.take_append_drop], hx, hy⟩, hf, hg⟩
        · cases ht
      · cases ht
    · cases ht

/-- Data of a type, read off its cells. -/
theorem open_cells : ∀ (k : Nat) (t : Nat) (ty : Ty), goodTy P k t = some ty → ∀ (fuel : Nat) (cs : List Value) (d : DataW H × List MemPlace), DataW.trod enc P w 0 sp held fuel t cs = some d →
    ∃ x : ty.den, Rz w (fun b => b < w.heap.size) ty x cs ∧ ty.fit x
  | 0, t, ty, hty, _, _, _, _ => by cases hty
  | k + 1, t, ty, hty, fuel, cs, d, h => by
    unfold goodTy at hty
    split at hty
    · rename_i i hu
      cases hty
      obtain ⟨n, rfl, _, hw⟩ := DataW.trod_int hu h
      simp only [Lit.wf, Bool.and_eq_true, decide_eq_true_eq] at hw
      exact ⟨n, rfl, hw⟩
    · rename_i hu
      cases hty
      obtain ⟨b, rfl, _⟩ := DataW.trod_bool hu h
      exact ⟨b, rfl, trivial⟩
    · rename_i hu
      cases hty
      obtain ⟨s, rfl, _, hs⟩ := DataW.trod_string hu h
      refine ⟨s.data.toList, ?_, ?_⟩
      · show _ = _
        cases s
        rfl
      · show _ ≤ _
        rw [Array.length_toList]
        exact hs
    · rename_i e hu
      split at hty
      · rename_i te hte
        split at hty
        · rename_i hc
          cases hty
          simp only [Bool.and_eq_true] at hc
          have hpos : 0 < te.size := Nat.le_of_ble_eq_true hc.1
          have hsz := Nat.eq_of_beq_eq_true hc.2
          rcases DataW.trod_slice hu h with ⟨rfl, _⟩ | ⟨a, len, cap, elems, rest, n, _, rfl, _, _, hlc, hcm, hel, hget, _, _⟩
          · exact ⟨[], ⟨none, 0, rfl, Nat.le_refl _, fun hp => by simp at hp⟩, by simp [Ty.fit]⟩
          · have hrow : ∀ i, i < len → ∃ cs x, (fun i => w.cells? 0 (a.add (i * te.size)) te.size) (0 + i) = some cs ∧ cs.length = te.size ∧ Rz w (fun b => b < w.heap.size) te x cs ∧ te.fit x := by
              intro i hi
              have hg := hget i hi
              rw [hsz, List.getElem?_eq_getElem (by omega)] at hg
              obtain ⟨c, h1, h2⟩ := Option.bind_eq_some_iff.1 hg
              obtain ⟨x, hx, hf⟩ := open_cells k e te hte n c _ h2
              exact ⟨c, x, by rw [Nat.zero_add]; exact h1, (cells_get h1).1, hx, hf⟩
            obtain ⟨xs, cs, hxl, hr, hcl, hq, hg⟩ := rowL (fun i => w.cells? 0 (a.add (i * te.size)) te.size) len 0 hrow
            refine ⟨xs, ⟨some a, cap, by rw [hxl], by rw [hxl]; exact hlc, fun hp => ?_⟩, by rw [hxl]; omega, hq⟩
            rw [hxl] at hp
            have hcell : ∀ j u, cs[j]? = some u → w.cell? (a.add j) = some u := by
              intro j u hu
              have hj : j < len * te.size := by rw [← hcl]; exact (List.getElem?_eq_some_iff.1 hu).1
              have hi : j / te.size < len := Nat.div_lt_of_lt_mul (by rw [Nat.mul_comm]; exact hj)
              obtain ⟨c, _, h1, hl, _⟩ := hrow (j / te.size) hi
              have hjm : j % te.size < te.size := Nat.mod_lt _ hpos
              have e1 : j / te.size * te.size + j % te.size = j := by rw [Nat.mul_comm]; exact Nat.div_add_mod _ _
              have := hg (j / te.size) (j % te.size) c hi h1 hjm
              rw [e1, hu] at this
              rw [Nat.zero_add] at h1
              have h3 := (cells_get h1).2 (j % te.size) u this.symm
              have e2 : (a.add (j / te.size * te.size)).add (j % te.size) = a.add j := add_two a e1
              rw [← e2]
              exact h3
            have h0 : ∃ u, cs[0]? = some u := by
              refine ⟨_, List.getElem?_eq_getElem ?_⟩
              rw [hcl]
              exact Nat.mul_pos hp hpos
            obtain ⟨u, hu⟩ := h0
            have hp := cell_place (hcell 0 u hu)
            obtain ⟨g, o, s⟩ := a
            obtain ⟨hp1, hp2⟩ := hp
            have hs : s = none := hp1
            subst hs
            exact ⟨g, o, cs, rfl, hp2, hr, fun j u hu => by rw [← add_plain]; exact hcell j u hu⟩
        · cases hty
      · cases hty
    · rename_i fields hu
      split at hty
      · rename_i ts hts
        split at hty
        · rename_i hc
          cases hty
          obtain ⟨xs, n, _, _, hlen, _, hf⟩ := DataW.trod_struct hu h
          rw [Nat.eq_of_beq_eq_true hc] at hlen
          have hf : ∀ f ∈ fields.toList, ∃ y, DataW.trod enc P w 0 sp held n f.type ((cs.drop f.offset).take (P.cellsOf f.type)) = some y := by
            intro f hm
            obtain ⟨i, hi, e⟩ := List.getElem_of_mem hm
            have hi' : i < fields.size := by simpa using hi
            have e' : fields[i]? = some f := by rw [Array.getElem?_eq_getElem hi']; simp only [← e, Array.getElem_toList]
            have := hf i f e'
            rw [this]
            exact ⟨xs[i]'(by omega), List.getElem?_eq_getElem _⟩
          have := fields_open (cs := cs) (D := fun t us => ∃ y, DataW.trod enc P w 0 sp held n t us = some y) (fun t ty us h1 ⟨y, h2⟩ => open_cells k t ty h1 n us y h2) fields.toList ts 0 hts hf (by rw [List.drop_zero]; exact hlen)
          rw [List.drop_zero] at this
          exact this
        · cases hty
      · cases hty
    · cases hty

/-! ### Arguments -/
def aggB (P : Program) (t : Nat) : Bool := match P.underlying t with
  | some (.struct _) => true
  | _ => false

theorem eqv_self : ∀ (t : Ty), t.eqv t = some ⟨rfl⟩
  | .int k => by
    have : ikEq k k = true := by cases k <;> rfl
    simp [Ty.eqv, this]
  | .bool => rfl
  | .str => rfl
  | .sl t => by
    unfold Ty.eqv
    rw [eqv_self t]
  | .pr a b => by
    unfold Ty.eqv
    rw [eqv_self a, eqv_self b]
  | .un => rfl
  | .ic => rfl
  | .fv => rfl
  | .fk f => by simp [Ty.eqv]
  | .tr a b => by
    unfold Ty.eqv
    rw [eqv_self a, eqv_self b]

theorem pack_unpack (C : Nat → Blk) : ∀ (t : Ty) (x : t.den) (r : List AV), pack C t (unpack t x ++ r) = some (x, r, [])
  | .int k, x, r => by
    have : dat1 C (.int k) (.d (.int k) x) = some (x, []) := by
      show (if ikEq k k = true then some (x, []) else none) = _
      rw [if_pos (by cases k <;> rfl)]
    show (match dat1 C (.int k) (.d (.int k) x) with | some (x, f) => some (x, r, f) | none => none) = _
    rw [this]
  | .bool, x, r => rfl
  | .str, x, r => rfl
  | .sl t, x, r => by
    have : dat1 C (.sl t) (.d (.sl t) x) = some (x, []) := by
      simp only [dat1, eqv_self]
      rfl
    show (match dat1 C (.sl t) (.d (.sl t) x) with | some (x, f) => some (x, r, f) | none => none) = _
    rw [this]
  | .pr a b, x, r => by
    show pack C (.pr a b) ((unpack a x.1 ++ unpack b x.2) ++ r) = _
    rw [List.append_assoc]
    unfold pack
    rw [pack_unpack C a x.1]
    simp only
    rw [pack_unpack C b x.2]
    rfl
  | .un, x, r => rfl
  | .ic, x, r => rfl
  | .fv, x, r => rfl
  | .fk f, x, r => by
    have : dat1 C (.fk f) (.fn f []) = some ((), []) := by
      show (if Nat.beq f f = true then some ((), []) else none) = _
      rw [if_pos (Nat.beq_refl f)]
    show (match dat1 C (.fk f) (.fn f []) with | some (x, f) => some (x, r, f) | none => none) = _
    rw [this]
  | .tr a b, x, r => by
    have : dat1 C (.tr a b) (.d (.tr a b) x) = some (x, []) := by
      simp only [dat1, eqv_self]
      rfl
    show (match dat1 C (.tr a b) (.d (.tr a b) x) with | some (x, f) => some (x, r, f) | none => none) = _
    rw [this]

theorem dat_ag (C : Nat → Blk) (t : Ty) (x : t.den) : dat C t (.ag (unpack t x)) = some (x, []) := by
  have := pack_unpack C t x []
  rw [List.append_nil] at this
  show (match pack C t (unpack t x) with | some (x, [], f) => some (x, f) | _ => none) = _
  rw [this]

theorem take_ag (C : Nat → Blk) (t : Ty) (x : t.den) : SV.take C [] (.d true t) (.ag (unpack t x)) = some (x, []) := dat_ag C t x

theorem take_one (C : Nat → Blk) (t : Ty) (x : t.den) (h : unpack t x = [.d t x]) : SV.take C [] (.d false t) (.d t x) = some (x, []) := by
  have := pack_unpack C t x []
  rw [List.append_nil, h] at this
  show (match pack C t [.d t x] with | some (x, [], f) => some (x, f) | _ => none) = _
  rw [this]

theorem open_arg {r : Reach} {b0 k t : Nat} {ty : Ty} {v : Value} {d : DataW H} {ps : List MemPlace} (hg : goodTy P (k + 1) t = some ty) (hv : Value.okWide P w r b0 t v) (hd : DataW.Trod enc P w 0 sp held t v d ps) :
    ∃ (a : AV) (x : ty.den), RelV w (fun b => b < w.heap.size) iNone a v ∧ SV.take cDead [] (.d (aggB P t) ty) a = some (x, []) ∧ ty.fit x := by
  obtain ⟨fuel, hf⟩ := hd
  obtain ⟨x, hx, hfit⟩ := open_cells (k + 1) t ty hg fuel _ _ hf
  unfold goodTy at hg
  unfold aggB
  split at hg
  · rename_i i hu
    cases hg
    obtain ⟨n, rfl⟩ := okWide_int hu hv
    rw [hu]
    exact ⟨_, x, by simp only [RelV]; exact hx, take_one _ _ x rfl, hfit⟩
  · rename_i hu
    cases hg
    obtain ⟨n, rfl⟩ := okWide_bool hu hv
    rw [hu]
    exact ⟨_, x, by simp only [RelV]; exact hx, take_one _ _ x rfl, hfit⟩
  · rename_i hu
    cases hg
    obtain ⟨n, rfl⟩ := okWide_string hu hv
    rw [hu]
    exact ⟨_, x, by simp only [RelV]; exact hx, take_one _ _ x rfl, hfit⟩
  · rename_i e hu
    split at hg
    · split at hg
      · cases hg
        obtain ⟨a, l, c, rfl⟩ := okWide_slice hu hv
        rw [hu]
        exact ⟨_, x, by simp only [RelV]; exact hx, take_one _ _ x rfl, hfit⟩
      · cases hg
    · cases hg
  · rename_i fs hu
    split at hg
    · split at hg
      · cases hg
        obtain ⟨cs, rfl, _⟩ := okWide_struct hu hv
        rw [hu]
        have hx : Rz _ _ _ x cs.toList := hx
        exact ⟨_, x, by simp only [RelV]; exact ⟨cs.toList, by simp, RelL_unpack _ _ _ hx⟩, take_ag _ _ x, hfit⟩
      · cases hg
    · cases hg
  · cases hg

def argsOf (P : Program) : List Nat → Option (List SV)
  | [] => some []
  | t :: r => match goodTy P 16 t with
    | some ty => match argsOf P r with
      | some s => some (.d (aggB P t) ty :: s)
      | none => none
    | none => none

def fitDL : (l : List SV) → SV.denL l → Prop
  | [], _ => True
  | .d _ t :: r, x => t.fit x.1 ∧ fitDL r x.2
  | _ :: _, _ => False

/-- All arguments, as data. -/
theorem open_args {r : Reach} {b0 : Nat} : ∀ (ts : List TypeId) (vs : List Value) (ds : List (DataW H)) (ps : List MemPlace), DataW.TrodAll enc P w 0 sp held ts vs ds ps →
    (∀ (j : Nat) t v, ts[j]? = some t → vs[j]? = some v → Value.okWide P w r b0 t v) → ∀ (svs : List SV), argsOf P ts = some svs →
    ∃ (avs : List AV) (x : SV.denL svs), RelL w (fun b => b < w.heap.size) iNone avs vs ∧ SV.takeL cDead [] svs avs = some (x, []) ∧ fitDL svs x
  | [], vs, ds, ps, h, _, svs, hs => by
    obtain ⟨rfl, _, _⟩ := trodAll_nil h
    cases hs
    exact ⟨[], (), RelL_nil.2 rfl, rfl, trivial⟩
  | t :: ts, vs, ds, ps, h, hv, svs, hs => by
    obtain ⟨v, vs', d, ds', p, q, rfl, rfl, rfl, hd, hr⟩ := trodAll_cons h
    unfold argsOf at hs
    split at hs
    · rename_i ty hty
      split at hs
      · rename_i s hs'
        cases hs
        obtain ⟨a, x, h1, h2, h3⟩ := open_arg hty (hv 0 t v rfl rfl) hd
        obtain ⟨avs, y, h4, h5, h6⟩ := open_args ts vs' ds' q hr (fun j t' v' h7 h8 => hv (j + 1) t' v' h7 h8) s hs'
        refine ⟨a :: avs, (x, y), RelL_cons.2 ⟨v, vs', rfl, h1, h4⟩, ?_, h3, h6⟩
        unfold SV.takeL
        rw [h2]
        simp only
        rw [h5]
        rfl
      · cases hs
    · cases hs

/-- They read behind the call as ahead of it. -/
theorem shut_args {W W' : World} (hl : laidOutB P = true) (hb : Below W.heap.size W W') : ∀ (ts : List TypeId) (vs : List Value) (ds : List (DataW H)) (ps : List MemPlace), (∀ t ∈ ts, P.readableRec t = true ∧ t < P.types.size) →
    DataW.TrodAll enc P W 0 (fun _ => true) true ts vs ds ps → DataW.TrodAll enc P W' 0 (fun b => decide (b < W.heap.size)) true ts vs ds ps
  | [], vs, ds, ps, _, h => by
    obtain ⟨rfl, rfl, rfl⟩ := trodAll_nil h
    exact trodAll_mk0
  | t :: ts, vs, ds, ps, ht, h => by
    obtain ⟨v, vs', d, ds', p, q, rfl, rfl, rfl, hd, hr⟩ := trodAll_cons h
    have lt : ∀ x ∈ p, x.block < W.heap.size := by
      obtain ⟨m, hm⟩ := hd
      exact DataW.trod_lt m _ _ _ hm
    exact trodAll_cons_mk (Below.trod hl (ht t (by simp)).1 (ht t (by simp)).2 hd hb lt) (shut_args hl hb ts vs' ds' q (fun t' h' => ht t' (by simp [h'])) hr)
end
end Go.Proofs.Rf
/- The laws of bits and of inverses, for well-typed bits. -/
namespace Go.Proofs.Rf
open Go Go.RowKit

theorem u64_of_fit {b : Int} (h : (Ty.int .u64).fit b) : ∃ n : Nat, b = (n : Int) ∧ n < 18446744073709551616 := by
  have h2 : IntKind.u64.min ≤ b ∧ b ≤ IntKind.u64.max := h
  have h0 : IntKind.u64.min = 0 := by decide
  have h1 : IntKind.u64.max = 18446744073709551615 := by decide
  rw [h0, h1] at h2
  exact ⟨b.toNat, by omega, by omega⟩

theorem law6_true (t : List UInt8) {b : Int} (h : (Ty.int .u64).fit b) : law6 (t, b, ()) = some ((true, ()), ()) := by
  obtain ⟨n, rfl, hn⟩ := u64_of_fit h
  exact law6_nat t hn
end Go.Proofs.Rf
/- What the listed variables give: the sorts of literals, the powers of ten. -/
namespace Go.Proofs.Rf
open Go Go.ChangeShapes Go.WideShapes Go.ChangeAt Go.RowKit

abbrev laid01 : List (String × DataW Unit) := Go.Proofs.YtofmlmonkfocnaaGreatDoor.Rows.wideTypesRow.laid

theorem cells105 : Tryz.prog.cellsOf 105 = 3 := by kernel_rfl
theorem cells106 : Tryz.prog.cellsOf 106 = 12 := by kernel_rfl
theorem cells9 : Tryz.prog.cellsOf 9 = 1 := by kernel_rfl
theorem cells102 : Tryz.prog.cellsOf 102 = 1 := by kernel_rfl
theorem cells103 : Tryz.prog.cellsOf 103 = 1 := by kernel_rfl
theorem cells36 : Tryz.prog.cellsOf 36 = 1 := by kernel_rfl
theorem cells204 : Tryz.prog.cellsOf 204 = 20 := by kernel_rfl

theorem list12 {A : Type} {l : List A} (h : l.length = 12) : ∃ a b c d e f g i j k m n, l = [a, b, c, d, e, f, g, i, j, k, m, n] := by
  match l, h with
  | [a, b, c, d, e, f, g, i, j, k, m, n], _ => exact ⟨a, b, c, d, e, f, g, i, j, k, m, n, rfl⟩

theorem list3 {A : Type} {l : List A} (h : l.length = 3) : ∃ a b c, l = [a, b, c] := by
  match l, h with
  | [a, b, c], _ => exact ⟨a, b, c, rfl⟩

theorem lit_str {s : ByteArray} {z : List UInt8} {H : Type} (h : (DataW.lit (.string s.data.toList) : DataW H) = .lit (.string z)) : s = ⟨z.toArray⟩ := by
  injection h with h
  injection h with h
  cases s with
  | mk d =>
    congr 1
    apply Array.ext'
    simpa using h

set_option maxRecDepth 100000 in
/-- One sort of literals. -/
theorem sort_elem {W : World} {fuel : Nat} {c0 c1 c2 : Value} {s : List UInt8} {n : Int} {b : UInt8} {r : List UInt8} {q : List MemPlace} {f0 : FuncId}
    (hone : ((List.range Tryz.prog.funcs.size).filter fun f => (Tryz.prog.funcs[f]?).any (·.name.toUTF8.data.toList == b :: r)) = [f0])
    (h : DataW.trod (funcToken Tryz.prog) Tryz.prog W 0 (fun _ => true) true fuel 105 [c0, c1, c2] = some (.agg [.lit (.string s), .lit (.int .u32 n), .held (b :: r)], q)) :
    c0 = .string ⟨s.toArray⟩ ∧ c1 = .int .u32 n ∧ c2 = .func (.func f0) #[] #[] := by
  obtain ⟨xs, m, _, hx, _, hn, hel⟩ := DataW.trod_struct Tryz.underlying105 h
  obtain ⟨y0, y1, y2, rfl⟩ := list3 (by simpa using hn)
  have e0 := hel 0 _ rfl
  have e1 := hel 1 _ rfl
  have e2 := hel 2 _ rfl
  have e0 : DataW.trod (funcToken Tryz.prog) Tryz.prog W 0 (fun _ => true) true m 9 [c0] = some y0 := by
    have this : DataW.trod (funcToken Tryz.prog) Tryz.prog W 0 (fun _ => true) true m 9 (List.take (Tryz.prog.cellsOf 9) (List.drop 0 [c0, c1, c2])) = some y0 := e0
    rw [cells9] at this
    exact this
  have e1 : DataW.trod (funcToken Tryz.prog) Tryz.prog W 0 (fun _ => true) true m 102 [c1] = some y1 := by
    have this : DataW.trod (funcToken Tryz.prog) Tryz.prog W 0 (fun _ => true) true m 102 (List.take (Tryz.prog.cellsOf 102) (List.drop 1 [c0, c1, c2])) = some y1 := e1
    rw [cells102] at this
    exact this
  have e2 : DataW.trod (funcToken Tryz.prog) Tryz.prog W 0 (fun _ => true) true m 103 [c2] = some y2 := by
    have this : DataW.trod (funcToken Tryz.prog) Tryz.prog W 0 (fun _ => true) true m 103 (List.take (Tryz.prog.cellsOf 103) (List.drop 2 [c0, c1, c2])) = some y2 := e2
    rw [cells103] at this
    exact this
  have hx1 := congrArg Prod.fst hx
  simp only [List.map_cons, List.map_nil] at hx1
  injection hx1 with hx1
  injection hx1 with a0 hx1
  injection hx1 with a1 hx1
  injection hx1 with a2 _
  obtain ⟨y0, z0⟩ := y0
  obtain ⟨y1, z1⟩ := y1
  obtain ⟨y2, z2⟩ := y2
  simp only at a0 a1 a2
  subst a0 a1 a2
  obtain ⟨t, hc0, hd0, _⟩ := DataW.trod_string Tryz.underlying9 e0
  obtain ⟨k, hc1, hd1, _⟩ := DataW.trod_int Tryz.underlying102 e1
  injection hc0 with hc0 _
  injection hc1 with hc1 _
  have hd0 := congrArg Prod.fst hd0
  have hd1 := congrArg Prod.fst hd1
  simp only at hd0 hd1
  injection hd1 with hd1
  injection hd1 with _ hd1
  exact ⟨by rw [hc0, lit_str hd0.symm], by rw [hc1, hd1], Go.func_of_trod (f0 := f0) Tryz.underlying103 hone e2⟩

/-- A variable's cells, as its block holds them. -/
theorem var_block {W : World} {name : String} {g : Nat} {us : List Value} (hg : Tryz.prog.globalNamed name = some g) (hv : W.var? Tryz.prog name = some us.toArray) : ∃ e fz, W.heap[g]? = some (.cells us.toArray e fz) := by
  unfold World.var? at hv
  rw [hg] at hv
  simp only [Option.bind_some] at hv
  split at hv
  · rename_i cs' e' fz hh
    injection hv with hv
    subst hv
    exact ⟨e', fz, hh⟩
  · cases hv

theorem radix_var {W : World} (h : laidMetH Tryz.prog laid01 W) : W.var? Tryz.prog "bowline/wide.radixes" = some (List.toArray [.string ⟨#[48, 120]⟩, .int .u32 16, .func (.func 199) #[] #[], .string ⟨#[48, 111]⟩, .int .u32 8, .func (.func 200) #[] #[], .string ⟨#[48, 98]⟩, .int .u32 2, .func (.func 200) #[] #[], .string ⟨#[]⟩, .int .u32 10, .func (.func 200) #[] #[]]) := by
  obtain ⟨g, t, cs, fuel, p, hg, ht, hv, hd⟩ := h.funcs (n := "bowline/wide.radixes") (d := _)
    (List.mem_cons_of_mem _ (List.mem_cons_of_mem _ (List.mem_cons_of_mem _ (List.mem_cons_of_mem _ (List.mem_cons_of_mem _ (List.mem_cons_of_mem _ (List.mem_cons_self ..)))))))
  obtain rfl := Option.some.inj ((show Tryz.prog.globalNamed "bowline/wide.radixes" = some 0 by kernel_rfl).symm.trans hg)
  obtain rfl := Option.some.inj ((show (Tryz.prog.globals[0]?).map (·.type) = some 106 by kernel_rfl).symm.trans ht)
  have hd' : DataW.trod (funcToken Tryz.prog) Tryz.prog W 0 (fun _ => true) true fuel 106 cs.toList = some (.agg [.agg [.lit (.string [48, 120]), .lit (.int .u32 16), .held [98, 111, 119, 108, 105, 110, 101, 47, 119, 105, 100, 101, 46, 104, 101, 120, 97, 100, 101, 99, 105, 109, 97, 108]], .agg [.lit (.string [48, 111]), .lit (.int .u32 8), .held [98, 111, 119, 108, 105, 110, 101, 47, 119, 105, 100, 101, 46, 100, 101, 99, 105, 109, 97, 108]], .agg [.lit (.string [48, 98]), .lit (.int .u32 2), .held [98, 111, 119, 108, 105, 110, 101, 47, 119, 105, 100, 101, 46, 100, 101, 99, 105, 109, 97, 108]], .agg [.lit (.string []), .lit (.int .u32 10), .held [98, 111, 119, 108, 105, 110, 101, 47, 119, 105, 100, 101, 46, 100, 101, 99, 105, 109, 97, 108]]], p) := hd
  obtain ⟨_, _, _, _, hlen, _, _⟩ := DataW.trod_array Tryz.underlying106 hd'
  rw [cells106] at hlen
  obtain ⟨a0, a1, a2, a3, a4, a5, a6, a7, a8, a9, a10, a11, hcs⟩ := list12 hlen
  have el := fun i hi => Go.Lib.array_elem Tryz.underlying106 hd' i hi
  rw [hcs, cells105] at el
  obtain ⟨f0, d0, q0, hd0, h0⟩ := el 0 (by decide)
  obtain ⟨f1, d1, q1, hd1, h1⟩ := el 1 (by decide)
  obtain ⟨f2, d2, q2, hd2, h2⟩ := el 2 (by decide)
  obtain ⟨f3, d3, q3, hd3, h3⟩ := el 3 (by decide)
  obtain rfl := Option.some.inj hd0
  obtain rfl := Option.some.inj hd1
  obtain rfl := Option.some.inj hd2
  obtain rfl := Option.some.inj hd3
  obtain ⟨r0, r1, r2⟩ := sort_elem (f0 := 199) (by kernel_rfl) h0
  obtain ⟨r3, r4, r5⟩ := sort_elem (f0 := 200) (by kernel_rfl) h1
  obtain ⟨r6, r7, r8⟩ := sort_elem (f0 := 200) (by kernel_rfl) h2
  obtain ⟨r9, r10, r11⟩ := sort_elem (f0 := 200) (by kernel_rfl) h3
  rw [hv]
  congr 1
  apply Array.ext'
  rw [hcs, r0, r1, r2, r3, r4, r5, r6, r7, r8, r9, r10, r11]

theorem pow_var {W : World} (h : laidMetH Tryz.prog laid01 W) : W.var? Tryz.prog "internal/strconv.uint64pow10" = some (Lib.pow10Tab.map fun z => Value.int .u64 z).toArray := by
  have h1 := (laidMetH_iff.1 h).1
  obtain ⟨g, t, cs, fuel, p, hg, ht, hv, hd⟩ := Go.Lib.laidMet.reads h1 (n := "internal/strconv.uint64pow10") (d := _) (List.mem_filter.2 ⟨List.mem_cons_of_mem _ (List.mem_cons_of_mem _ (List.mem_cons_self ..)), rfl⟩)
  obtain rfl := Option.some.inj ((show Tryz.prog.globalNamed "internal/strconv.uint64pow10" = some 1 by kernel_rfl).symm.trans hg)
  obtain rfl := Option.some.inj ((show (Tryz.prog.globals[1]?).map (·.type) = some 204 by kernel_rfl).symm.trans ht)
  have hd' : DataW.trod (fun _ => ()) Tryz.prog W 0 (fun _ => true) false fuel 204 cs.toList = some (Lib.tabData .u64 Lib.pow10Tab, p) := hd
  have hcs := Go.Lib.cells_of_tab Tryz.underlying204 Tryz.underlying36 cells36 cells204 hd'
  rw [hv]
  congr 1
  apply Array.ext'
  rw [hcs]

theorem gl01 {W : World} (h : laidMetH Tryz.prog laid01 W) : GlOK W (fun b => b < W.heap.size) := by
  obtain ⟨e0, fz0, h0⟩ := var_block (g := 0) (by kernel_rfl) (radix_var h)
  have hp := pow_var h
  obtain ⟨e1, fz1, h1⟩ := var_block (g := 1) (by kernel_rfl) hp
  intro g us hgl
  unfold glob at hgl
  split at hgl
  · injection hgl with hgl
    subst hgl
    exact ⟨(Array.getElem?_eq_some_iff.1 h0).1, by simp, e0, fz0, h0⟩
  · injection hgl with hgl
    subst hgl
    exact ⟨(Array.getElem?_eq_some_iff.1 h1).1, by simp, e1, fz1, h1⟩
  · cases hgl
end Go.Proofs.Rf
/- A start in which the listed variables are laid. -/
namespace Go.Proofs.Rf
open Go Go.ChangeShapes Go.WideShapes Go.ChangeAt Go.RowKit

noncomputable def door01 (os : Os) : World := (World.doorLaid Tryz.prog 81 os).layVars Tryz.prog (laid01.filter fun x => x.2.handleName?.isNone)
theorem door01_os (os : Os) : (door01 os).os = os := World.layVars_os _ _ _

theorem door01_fits (os : Os) : (World.doorLaid Tryz.prog 81 os).layFits Tryz.prog (laid01.filter fun x => x.2.handleName?.isNone) [] = true := by kernel_rfl
theorem door01_ifaces (os : Os) : (World.doorLaid Tryz.prog 81 os).layIfaces Tryz.prog (laid01.filter fun x => x.2.handleName?.isNone) (door01 os) = true := by kernel_rfl

theorem door01_plain (os : Os) : laidMet Tryz.prog (laid01.filter fun x => x.2.handleName?.isNone) (door01 os) := by
  have hf := door01_fits os
  have hi := door01_ifaces os
  unfold door01 at hi ⊢
  generalize (laid01.filter fun x => x.2.handleName?.isNone) = laid at *
  have e1 : (laid.filter fun x => (laid.map (·.1)).contains x.1) = laid := List.filter_eq_self.2 fun x hx => List.contains_iff_mem.2 (List.mem_map.2 ⟨x, hx, rfl⟩)
  have e2 : (laid.filter fun x => !(laid.map (·.1)).contains x.1) = [] := List.filter_eq_nil_iff.2 fun x hx => by rw [List.contains_iff_mem.2 (List.mem_map.2 ⟨x, hx, rfl⟩)]; simp
  exact laidMet_layVars (w0 := World.doorLaid Tryz.prog 81 os) (laid.map (·.1)) [] (by rw [e1]) (by rw [e1]; exact hf) (by rw [e1]; exact hi) (by rw [e2]; exact LaidIn.none)

theorem door01_met (os : Os) (args : Array Value) : laidMetH Tryz.prog laid01 ((door01 os).forCall (fun _ _ => 0) ⟨#[], args, []⟩).memory :=
  laidMetH_of_parts3 (fuel := 8) ((door01_plain os).of_heap (by simp [World.memory, World.forCall, Input.heap])) (by kernel_rfl) (by kernel_rfl)

theorem door01_shaped (os : Os) (args : Array Value) : ((door01 os).forCall (fun _ _ => 0) ⟨#[], args, []⟩).Shaped Tryz.prog := World.shaped_of_RefB (by kernel_rfl) (by kernel_rfl)
end Go.Proofs.Rf
