/- Numerals: both texts come to the same number and error. -/
import Derived.Test.YtgkgjgcoalmldaaP4
import Derived.Laws.RangeAny
import Derived.Laws.RangeString
namespace Go.Proofs.Rf
open Go

/-- A digit's value. -/
def dg (c : Int) : Int := if 48 ≤ c ∧ c ≤ 57 then c - 48 else if 97 ≤ c ∧ c ≤ 122 then c - 87 else 99

theorem dg_nonneg (c : Int) : 0 ≤ dg c := by unfold dg; split <;> (try split) <;> omega
theorem dg_lt (c : Int) : dg c < 100 := by unfold dg; split <;> (try split) <;> omega

theorem w32i {n : Int} (h0 : -2147483648 ≤ n) (h1 : n < 2147483648) : IntKind.i32.wrap n = n := by
  simp [IntKind.wrap, IntKind.bits, IntKind.signed]
  omega

theorem F60_spec {c : Int} (h0 : 0 ≤ c) (h1 : c < 2147483648) : F60 (c, ()) = some ((dg c, ()), ()) := by
  rw [F60_eq]
  unfold dg
  have e1 : IntKind.i32.wrap (c - 48) = c - 48 := w32i (by omega) (by omega)
  have e2 : IntKind.i32.wrap (c - 97) = c - 97 := w32i (by omega) (by omega)
  have e3 : IntKind.i64.wrap (c - 48) = c - 48 := wi (by omega) (by omega)
  have e4 : IntKind.i64.wrap (c - 97) = c - 97 := wi (by omega) (by omega)
  have e5 : IntKind.i64.wrap (c - 97 + 10) = c - 87 := by rw [wi (by omega) (by omega)]; omega
  simp only [decide_eq_true_eq, e1, e2, e3, e4, e5, ge_iff_le]
  by_cases a1 : 48 ≤ c <;> by_cases a2 : c ≤ 57 <;> by_cases a3 : 97 ≤ c <;> by_cases a4 : c ≤ 122 <;> simp [a1, a2, a3, a4] <;> omega

theorem F47_spec {c : Int} (h0 : 0 ≤ c) (h1 : c < 256) : F47 F94 (c, ()) = some ((dg c, ()), ()) := by
  have q : F94 (c, ()) = some ((decide (48 ≤ c ∧ c ≤ 57), ()), ()) := by
    rw [F94_eq]
    simp only [decide_eq_true_eq, ge_iff_le]
    by_cases a1 : 48 ≤ c <;> by_cases a2 : c ≤ 57 <;> simp [a1, a2]
  rw [F47_eq, q]
  unfold dg
  simp only [Option.bind_some, decide_eq_true_eq, ge_iff_le]
  by_cases a1 : 48 ≤ c ∧ c ≤ 57
  · rw [if_pos a1, if_pos a1, w8 (by omega) (by omega), wi (by omega) (by omega)]
  · rw [if_neg a1, if_neg a1]
    by_cases a2 : 97 ≤ c
    · by_cases a3 : c ≤ 122
      · rw [if_pos a2, if_pos a3, if_pos ⟨a2, a3⟩, w8 (by omega) (by omega), wi (n := c - 97) (by omega) (by omega), show c - 97 + 10 = c - 87 by omega, wi (by omega) (by omega)]
      · rw [if_pos a2, if_neg a3, if_neg (fun q => a3 q.2)]
    · rw [if_neg a2, if_neg (fun q => a2 q.1)]

/-- All are digits. -/
def allD (base : Int) (d : List UInt8) : Bool := d.all fun c => decide (dg (c.toNat : Int) < base)

theorem drop_cons {d : List UInt8} {i : Nat} (h : i < d.length) : d.drop i = d.getD i 0 :: d.drop (i + 1) := by
  rw [List.drop_eq_getElem_cons h, List.getD_eq_getElem?_getD, List.getElem?_eq_getElem h]
  rfl

theorem u8lt (c : UInt8) : (c.toNat : Int) < 256 := by have := c.toNat_lt; omega

/-- The reference's check of the digits. -/
theorem S10_12_spec {base fr : Int} {d : List UInt8} (hd : d.length < 1000000000) :
    limL (S10_12 (F47 F94)) ((base, (), fr, d, 0, ()), ((false, [], ()), ())) = some (if allD base d = true then .inr ((base, (), fr, d, ()), ((false, [], ()), ())) else .inl (((), 19, ()), ((false, [], ()), ()))) := by
  obtain ⟨z, h1, rfl⟩ := limL_ind (f := S10_12 (F47 F94)) (fun x => d.length - x.1.2.2.2.2.1.toNat)
    (fun x => ∃ i : Nat, x = ((base, (), fr, d, (i : Int), ()), ((false, [], ()), ())) ∧ i ≤ d.length ∧ allD base d = allD base (d.drop i))
    (fun z => z = (if allD base d = true then .inr ((base, (), fr, d, ()), ((false, [], ()), ())) else .inl (((), 19, ()), ((false, [], ()), ())))) (by
    rintro x ⟨i, rfl, hi, hall⟩
    by_cases hlt : i < d.length
    · have h3 := drop_cons hlt
      have hc := u8lt (d.getD i 0)
      have hf := F47_spec (c := ((d.getD i 0).toNat : Int)) (by omega) hc
      have e := S10_12_eq (F47 F94) base fr d (i : Int) false []
      simp only [Int.toNat_natCast, decide_eq_true_eq, Int.ofNat_lt, hlt, if_true, show (0 : Int) ≤ (i : Int) by omega] at e
      rw [hf] at e
      have e7 : IntKind.i64.wrap ((i : Int) + 1) = ((i + 1 : Nat) : Int) := by rw [wi (by omega) (by omega)]; omega
      simp only [Option.bind_some, e7] at e
      rw [h3] at hall
      by_cases hb : dg ((d.getD i 0).toNat : Int) < base
      · left
        rw [if_neg (show ¬ (dg ((d.getD i 0).toNat : Int) ≥ base) by omega)] at e
        refine ⟨_, e, ⟨i + 1, rfl, by omega, ?_⟩, by simp only [Int.toNat_natCast]; omega⟩
        rw [hall]
        simp only [allD, List.all_cons, hb, decide_true, Bool.true_and]
      · right
        rw [if_pos (show dg ((d.getD i 0).toNat : Int) ≥ base by omega)] at e
        refine ⟨_, e, ?_⟩
        rw [hall]
        simp only [allD, List.all_cons, hb, decide_false, Bool.false_and]
        rfl
    · right
      refine ⟨_, ?_, rfl⟩
      rw [hall, List.drop_of_length_le (by omega)]
      rw [S10_12_eq]
      simp only [decide_eq_true_eq, Int.ofNat_lt, hlt, if_false]
      rfl) ((base, (), fr, d, ((0 : Nat) : Int), ()), ((false, [], ()), ())) ⟨0, rfl, by omega, by simp⟩
  exact h1

/-! ### Runes -/
theorem decode_lo {s : List UInt8} {p : Nat} (hp : p < s.length) (h : (s.getD p 0).toNat < 128) : Utf8.decode ⟨s.toArray⟩ p = ((s.getD p 0).toNat, 1) := by
  have hp' : p < (⟨s.toArray⟩ : ByteArray).size := by simpa [ByteArray.size] using hp
  have e : (⟨s.toArray⟩ : ByteArray)[p]'hp' = s.getD p 0 := by
    rw [List.getD_eq_getElem?_getD, List.getElem?_eq_getElem hp]
    rfl
  have := decode_ascii ⟨s.toArray⟩ p hp' (by rw [e]; exact h)
  rw [e] at this
  exact this

theorem decode_hi {s : List UInt8} {p : Nat} (hp : p < s.length) (h : 128 ≤ (s.getD p 0).toNat) : 128 ≤ (Utf8.decode ⟨s.toArray⟩ p).1 := by
  have hp' : p < (⟨s.toArray⟩ : ByteArray).size := by simpa [ByteArray.size] using hp
  have e : (⟨s.toArray⟩ : ByteArray)[p]'hp' = s.getD p 0 := by
    rw [List.getD_eq_getElem?_getD, List.getElem?_eq_getElem hp]
    rfl
  exact (decode_high ⟨s.toArray⟩ p hp' (by rw [e]; exact h)).1

theorem dg_high {c : Int} (h : 128 ≤ c) : dg c = 99 := by unfold dg; rw [if_neg (by omega), if_neg (by omega)]

/-- The program's check of the digits. -/
theorem S55_5_spec {base : Int} {d : List UInt8} (hb : base ≤ 36) :
    limL (S55_5 F60) ((base, (), ()), ((d, 0), ())) = some (if allD base d = true then .inr ((), ()) else .inl ((false, ()), ())) := by
  obtain ⟨z, h1, rfl⟩ := limL_ind (f := S55_5 F60) (fun x => d.length - x.2.1.2)
    (fun x => ∃ p : Nat, x = ((base, (), ()), ((d, p), ())) ∧ p ≤ d.length ∧ allD base d = allD base (d.drop p))
    (fun z => z = (if allD base d = true then .inr ((), ()) else .inl ((false, ()), ()))) (by
    rintro x ⟨p, rfl, hi, hall⟩
    by_cases hlt : p < d.length
    · have h3 := drop_cons hlt
      have hle := decode_le ⟨d.toArray⟩ p
      have hf := F60_spec (c := ((Utf8.decode ⟨d.toArray⟩ p).1 : Int)) (by omega) (by omega)
      have e := S55_5_eq F60 base d p
      rw [if_pos hlt, hf] at e
      simp only [Option.bind_some, decide_eq_true_eq] at e
      rw [h3] at hall
      by_cases hc : (d.getD p 0).toNat < 128
      · rw [decode_lo hlt hc] at e
        by_cases hb : dg ((d.getD p 0).toNat : Int) < base
        · left
          rw [if_neg (show ¬ (dg ((d.getD p 0).toNat : Int) ≥ base) by omega)] at e
          refine ⟨_, e, ⟨p + 1, rfl, by omega, ?_⟩, by show d.length - (p + 1) < d.length - p; omega⟩
          rw [hall]
          simp only [allD, List.all_cons, hb, decide_true, Bool.true_and]
        · right
          rw [if_pos (show dg ((d.getD p 0).toNat : Int) ≥ base by omega)] at e
          refine ⟨_, e, ?_⟩
          rw [hall]
          simp only [allD, List.all_cons, hb, decide_false, Bool.false_and]
          rfl
      · right
        have hh := decode_hi hlt (by omega)
        rw [dg_high (by omega), if_pos (show (99 : Int) ≥ base by omega)] at e
        refine ⟨_, e, ?_⟩
        rw [hall]
        have : ¬ dg ((d.getD p 0).toNat : Int) < base := by rw [dg_high (by omega)]; omega
        simp only [allD, List.all_cons, this, decide_false, Bool.false_and]
        rfl
    · right
      refine ⟨_, ?_, rfl⟩
      rw [hall, List.drop_of_length_le (by omega)]
      rw [S55_5_eq, if_neg hlt]
      rfl) ((base, (), ()), ((d, 0), ())) ⟨0, rfl, by omega, by simp⟩
  exact h1

/-! ### The number -/
/-- Digit by digit; none where it becomes too large. -/
def nums (base : Int) : List UInt8 → Nat → Option Nat
  | [], n => some n
  | c :: r, n => if 200 < (lim ((n : Int) * base + dg (c.toNat : Int)).toNat).length then none else nums base r ((n : Int) * base + dg (c.toNat : Int)).toNat

theorem lim_one {x : Int} (h0 : 0 ≤ x) (h1 : x < 4294967296) : val (lim x.toNat) = x := by rw [val_lim]; omega

theorem F50_one {x : Int} (h0 : 0 ≤ x) (h1 : x < 4294967296) : F50 (limL S50_2) ([x], ()) = some ((lim x.toNat, ()), ()) := by
  have := F50_spec (l := [x]) (Wf.cons h0 h1 Wf.nil) (by simp)
  simpa [val] using this
theorem F96_one {x : Int} (h0 : 0 ≤ x) (h1 : x < 4294967296) : F96 (limL S96_2) ([x], ()) = some ((lim x.toNat, ()), ()) := by
  have := F96_spec (l := [x]) (Wf.cons h0 h1 Wf.nil) (by simp)
  simpa [val] using this

theorem lim_len {x : Int} (h0 : 0 ≤ x) (h1 : x < 4294967296) : (lim x.toNat).length ≤ 1 := by
  by_cases h : x.toNat = 0
  · rw [h, lim_zero]; simp
  · rw [lim_pos h, show x.toNat / 4294967296 = 0 by omega, lim_zero]; simp
end Go.Proofs.Rf
