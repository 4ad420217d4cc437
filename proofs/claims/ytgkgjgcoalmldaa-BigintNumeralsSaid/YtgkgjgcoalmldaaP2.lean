/- Limbs: what the loops of both texts come to: without zeros at the end, sums, products. -/
import Derived.Test.YtgkgjgcoalmldaaP1
namespace Go.Proofs.Rf
open Go

abbrev DT := (List Int × Int × Unit) × Unit

theorem trim_loop {f : DT → Option (DT ⊕ DT)} (hf : ∀ l n, f ((l, n, ()), ()) = (
    if decide (n > 0) = true then
      if 0 ≤ IntKind.i64.wrap (n - 1) then
        if IntKind.i64.wrap (n - 1) < (l.length : Int) then
          if (l.getD (IntKind.i64.wrap (n - 1)).toNat 0 == 0) = true then
            some (Sum.inl ((l, IntKind.i64.wrap (n - 1), ()), ()))
          else some (Sum.inr ((l, n, ()), ()))
        else none
      else none
    else some (Sum.inr ((l, n, ()), ())))) (l : List Int) (hl : l.length < 4611686018427387904) :
    ∃ n : Nat, limL f ((l, (l.length : Int), ()), ()) = some ((l, (n : Int), ()), ()) ∧ n ≤ l.length ∧ (∀ i, n ≤ i → i < l.length → l.getD i 0 = 0) ∧ (0 < n → l.getD (n - 1) 0 ≠ 0) := by
  obtain ⟨z, h1, n, rfl, h2⟩ := limL_ind (f := f) (fun x => x.1.2.1.toNat) (fun x => ∃ n : Nat, x = ((l, (n : Int), ()), ()) ∧ n ≤ l.length ∧ ∀ i, n ≤ i → i < l.length → l.getD i 0 = 0)
    (fun z => ∃ n : Nat, z = ((l, (n : Int), ()), ()) ∧ n ≤ l.length ∧ (∀ i, n ≤ i → i < l.length → l.getD i 0 = 0) ∧ (0 < n → l.getD (n - 1) 0 ≠ 0)) (by
    rintro x ⟨n, rfl, hn, hz⟩
    rcases Nat.eq_zero_or_pos n with rfl | hp
    · right
      refine ⟨_, ?_, 0, rfl, hn, hz, fun h => absurd h (by omega)⟩
      rw [hf, if_neg (by simp)]
    · have hw : IntKind.i64.wrap ((n : Int) - 1) = ((n - 1 : Nat) : Int) := by rw [wi (by omega) (by omega)]; omega
      have e := hf l (n : Int)
      rw [hw, if_pos (by simp; omega), if_pos (by omega), if_pos (by omega), Int.toNat_natCast] at e
      by_cases hx : l.getD (n - 1) 0 = 0
      · left
        rw [if_pos (by rw [hx]; rfl)] at e
        refine ⟨_, e, ⟨n - 1, rfl, by omega, fun i h1 h2 => ?_⟩, ?_⟩
        · rcases Nat.eq_or_lt_of_le h1 with q | q
          · rw [← q]; exact hx
          · exact hz i (by omega) h2
        · simp only [Int.toNat_natCast]; omega
      · right
        rw [if_neg (by simpa using hx)] at e
        exact ⟨_, e, n, rfl, hn, hz, fun _ => hx⟩) ((l, (l.length : Int), ()), ()) ⟨l.length, rfl, Nat.le_refl _, fun i h1 h2 => absurd h2 (by omega)⟩
  exact ⟨n, h1, h2⟩

/-! ### Sums -/
theorem getD_big {a : List Int} {i : Nat} (h : a.length ≤ i) : a.getD i 0 = 0 := by
  rw [List.getD_eq_getElem?_getD, List.getElem?_eq_none h]; rfl

theorem val_take_succ (a : List Int) (i : Nat) : val (a.take (i + 1)) = val (a.take i) + 4294967296 ^ i * a.getD i 0 := by
  rcases Nat.lt_or_ge i a.length with h | h
  · rw [List.take_succ_eq_append_getElem h, val_append, List.getD_eq_getElem?_getD, List.getElem?_eq_getElem h]
    simp [val, List.length_take, Nat.min_eq_left (Nat.le_of_lt h)]
  · rw [List.take_of_length_le (by omega), List.take_of_length_le h, getD_big h]
    simp

theorem val_set {r : List Int} {i : Nat} (h : i < r.length) (v : Int) : val (r.set i v) = val r + 4294967296 ^ i * (v - r.getD i 0) := by
  induction r generalizing i with
  | nil => simp at h
  | cons x r ih =>
    cases i with
    | zero => simp [val]; omega
    | succ i =>
      have := ih (i := i) (by simpa using h)
      simp only [List.set_cons_succ, val, this, List.getD_cons_succ, Int.pow_succ]
      grind

theorem powB (i : Nat) : (4294967296 : Int) ^ (i + 1) = 4294967296 ^ i * 4294967296 := Int.pow_succ ..
theorem powB_pos (i : Nat) : (0 : Int) < 4294967296 ^ i := Int.pow_pos (by decide)

theorem val_take_all {a : List Int} {i : Nat} (h : a.length ≤ i) : val (a.take i) = val a := by rw [List.take_of_length_le h]

theorem val_zero {r : List Int} (h : ∀ k, k < r.length → r.getD k 0 = 0) : val r = 0 := by
  induction r with
  | nil => rfl
  | cons x r ih =>
    have h0 := h 0 (by simp)
    have h1 := ih fun i hi => by have := h (i + 1) (by simpa using hi); simpa using this
    simp only [List.getD_cons_zero] at h0
    simp [val, h0, h1]

/-- One limb of a sum. -/
theorem add_limb {P c x y s V : Int} (hs : s = c + x + y) : P * (s % 4294967296) + P * 4294967296 * (s / 4294967296) + V = V + P * c + P * x + P * y := by
  have h : s % 4294967296 + 4294967296 * (s / 4294967296) = s := by omega
  grind

/-- One limb of a product. -/
theorem mul_limb {P c x y r s V : Int} (hs : s = c + x * y + r) : V + P * (s % 4294967296 - r) + P * 4294967296 * (s / 4294967296) = V + P * c + P * (x * y) := by
  have h : s % 4294967296 + 4294967296 * (s / 4294967296) = s := by omega
  grind

theorem mul_bound {c x y r : Int} (hc : 0 ≤ c) (hc' : c < 4294967296) (hx : 0 ≤ x) (hx' : x < 4294967296) (hy : 0 ≤ y) (hy' : y < 4294967296) (hr : 0 ≤ r) (hr' : r < 4294967296) :
    0 ≤ x * y ∧ x * y ≤ 18446744065119617025 ∧ 0 ≤ c + x * y + r ∧ c + x * y + r < 18446744073709551616 := by
  have h1 := Int.mul_le_mul (show x ≤ 4294967295 by omega) (show y ≤ 4294967295 by omega) hy (by decide)
  have h2 := Int.mul_nonneg hx hy
  have h3 : (4294967295 : Int) * 4294967295 = 18446744065119617025 := by decide
  rw [h3] at h1
  omega
end Go.Proofs.Rf
