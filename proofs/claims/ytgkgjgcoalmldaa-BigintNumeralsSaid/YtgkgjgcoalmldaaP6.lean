/- Numerals: the loops that read the digits. -/
import Derived.Test.YtgkgjgcoalmldaaP5
import Derived.Test.YtgkgjgcoalmldaaL40
namespace Go.Proofs.Rf
open Go

theorem L50_spec {l : List Int} (hw : Wf l) (hl : l.length < 4611686018427387904) : L50 (l, ()) = some ((lim (val l).toNat, ()), ()) := F50_spec hw hl
theorem L96_spec {l : List Int} (hw : Wf l) (hl : l.length < 4611686018427387904) : L96 (l, ()) = some ((lim (val l).toNat, ()), ()) := F96_spec hw hl
theorem L50_one {x : Int} (h0 : 0 ≤ x) (h1 : x < 4294967296) : L50 ([x], ()) = some ((lim x.toNat, ()), ()) := F50_one h0 h1
theorem L48_spec {a b : List Int} (wa : Wf a) (wb : Wf b) (sa : Sm a) (sb : Sm b) : L48 (a, b, ()) = some ((lim (val a + val b).toNat, ()), ()) := F48_spec wa wb sa sb
theorem L49_spec {a b : List Int} (wa : Wf a) (wb : Wf b) (sa : Sm a) (sb : Sm b) : L49 (a, b, ()) = some ((lim (val a * val b).toNat, ()), ()) := F49_spec wa wb sa sb
theorem L57_spec {a b : List Int} (wa : Wf a) (wb : Wf b) (sa : Sm a) (sb : Sm b) : L57 (a, b, ()) = some ((lim (val a * val b).toNat, ()), ()) := F57_spec wa wb sa sb
theorem L59_spec {a b : List Int} (wa : Wf a) (wb : Wf b) (sa : Sm a) (sb : Sm b) : L59 (a, b, ()) = some ((lim (val a + val b).toNat, ()), ()) := F59_spec wa wb sa sb
theorem L47_spec {c : Int} (h0 : 0 ≤ c) (h1 : c < 256) : L47 (c, ()) = some ((dg c, ()), ()) := F47_spec h0 h1
theorem L60_spec {c : Int} (h0 : 0 ≤ c) (h1 : c < 2147483648) : L60 (c, ()) = some ((dg c, ()), ()) := F60_spec h0 h1

theorem L58_spec {x : Int} (h0 : 0 ≤ x) (h1 : x < 4294967296) : L58 (x, ()) = some ((lim x.toNat, ()), ()) := by
  have := F96_one h0 h1
  show F58 L96 (x, ()) = _
  rw [F58_eq, show L96 ([x], ()) = _ from this]
  rfl

theorem lim_len_le {m k : Nat} (h : (m : Int) < 4294967296 ^ k) : (lim m).length ≤ k := by
  rcases Nat.lt_or_ge k (lim m).length with q | q
  · exfalso
    have hv := val_lim m
    have hw := Wf_lim m
    have hn := Nm_lim m
    have key : ∀ (l : List Int), Wf l → Nm l → l ≠ [] → 4294967296 ^ (l.length - 1) ≤ val l := by
      intro l
      induction l with
      | nil => intro _ _ h; exact absurd rfl h
      | cons x r ih =>
        intro hw hn _
        cases r with
        | nil =>
          have := val_pos hw hn (by simp)
          simp only [List.length_cons, List.length_nil, Nat.zero_add, Nat.sub_self, Int.pow_zero]
          omega
        | cons y r =>
          have h1 := ih hw.tail hn.tail (by simp)
          have h2 := hw.head
          simp only [List.length_cons, Nat.add_sub_cancel] at h1 ⊢
          rw [powB, val]
          omega
    have h1 := key (lim m) hw hn (by intro e; rw [e] at q; simp at q)
    have h2 : (4294967296 : Int) ^ k ≤ 4294967296 ^ ((lim m).length - 1) := powB_mono (by omega)
    omega
  · exact q

/-- One digit more, in the reference. -/
theorem ref_digit {n : Nat} {base : Int} {c : Int} (hb : 2 ≤ base) (hb1 : base ≤ 36) (hc : 0 ≤ c) (hc1 : c < 100) (hn : (lim n).length ≤ 200) :
    L49 (lim n, [base], ()) = some ((lim ((n : Int) * base).toNat, ()), ()) ∧ L48 (lim ((n : Int) * base).toNat, lim c.toNat, ()) = some ((lim ((n : Int) * base + c).toNat, ()), ()) := by
  have hw := Wf_lim n
  have h0 : (0 : Int) ≤ (n : Int) * base := Int.mul_nonneg (by omega) (by omega)
  constructor
  · have := L49_spec (a := lim n) (b := [base]) hw (Wf.cons (by omega) (by omega) Wf.nil) (by unfold Sm; omega) (by unfold Sm; simp)
    rw [this, val_lim]
    simp [val]
  · have hl : (lim ((n : Int) * base).toNat).length ≤ 201 := by
      -- the number of limbs of a product
      have hlt := val_lt hw
      rw [val_lim] at hlt
      have hlt2 : (n : Int) * base < 4294967296 ^ ((lim n).length + 1) := by
        rw [powB]
        have h1 : (n : Int) * base ≤ (n : Int) * 4294967296 := Int.mul_le_mul_of_nonneg_left (by omega) (by omega)
        have h2 : (n : Int) * 4294967296 < 4294967296 ^ (lim n).length * 4294967296 := Int.mul_lt_mul_of_pos_right hlt (by decide)
        omega
      exact Nat.le_trans (lim_len_le (k := (lim n).length + 1) (by omega)) (by omega)
    have hd := lim_len hc (by omega)
    have := L48_spec (a := lim ((n : Int) * base).toNat) (b := lim c.toNat) (Wf_lim _) (Wf_lim _) (by unfold Sm; omega) (by unfold Sm; omega)
    rw [this, val_lim, val_lim]
    congr 4
    omega

/-- One digit more, in the program. -/
theorem prog_digit {n : Nat} {base : Int} {c : Int} (hb : 2 ≤ base) (hb1 : base ≤ 36) (hc : 0 ≤ c) (hc1 : c < 100) (hn : (lim n).length ≤ 200) :
    L57 (lim n, lim base.toNat, ()) = some ((lim ((n : Int) * base).toNat, ()), ()) ∧ L59 (lim ((n : Int) * base).toNat, lim c.toNat, ()) = some ((lim ((n : Int) * base + c).toNat, ()), ()) := by
  have hw := Wf_lim n
  have h0 : (0 : Int) ≤ (n : Int) * base := Int.mul_nonneg (by omega) (by omega)
  have hbl := lim_len (x := base) (by omega) (by omega)
  constructor
  · have := L57_spec (a := lim n) (b := lim base.toNat) hw (Wf_lim _) (by unfold Sm; omega) (by unfold Sm; omega)
    rw [this, val_lim, lim_one (by omega) (by omega)]
  · have hl : (lim ((n : Int) * base).toNat).length ≤ 201 := by
      have hlt := val_lt hw
      rw [val_lim] at hlt
      have hlt2 : (n : Int) * base < 4294967296 ^ ((lim n).length + 1) := by
        rw [powB]
        have h1 : (n : Int) * base ≤ (n : Int) * 4294967296 := Int.mul_le_mul_of_nonneg_left (by omega) (by omega)
        have h2 : (n : Int) * 4294967296 < 4294967296 ^ (lim n).length * 4294967296 := Int.mul_lt_mul_of_pos_right hlt (by decide)
        omega
      exact Nat.le_trans (lim_len_le (k := (lim n).length + 1) (by omega)) (by omega)
    have hd := lim_len hc (by omega)
    have := L59_spec (a := lim ((n : Int) * base).toNat) (b := lim c.toNat) (Wf_lim _) (Wf_lim _) (by unfold Sm; omega) (by unfold Sm; omega)
    rw [this, val_lim, val_lim]
    congr 4
    omega

/-- The reference's loop. -/
theorem Lg10_18_spec {base fr : Int} {d : List UInt8} (hb : 2 ≤ base) (hb1 : base ≤ 36) (hd : d.length < 1000000000) :
    Lg10_18 ((base, (), fr, d, [], 0, ()), ((false, [], ()), ())) = some (match nums base d 0 with
      | some n => .inr (((), fr, lim n, ()), ((false, [], ()), ()))
      | none => .inl (((), 4, ()), ((false, [], ()), ()))) := by
  obtain ⟨z, h1, rfl⟩ := limL_ind (f := S10_18 L47 L48 L49 L50) (fun x => d.length - x.1.2.2.2.2.2.1.toNat)
    (fun x => ∃ i n : Nat, x = ((base, (), fr, d, lim n, (i : Int), ()), ((false, [], ()), ())) ∧ i ≤ d.length ∧ (lim n).length ≤ 200 ∧ nums base d 0 = nums base (d.drop i) n)
    (fun z => z = (match nums base d 0 with
      | some n => .inr (((), fr, lim n, ()), ((false, [], ()), ()))
      | none => .inl (((), 4, ()), ((false, [], ()), ())))) (by
    rintro x ⟨i, n, rfl, hi, hn, hnum⟩
    by_cases hlt : i < d.length
    · have h3 := drop_cons hlt
      have hc := u8lt (d.getD i 0)
      have hf := L47_spec (c := ((d.getD i 0).toNat : Int)) (by omega) hc
      have hdg := dg_nonneg ((d.getD i 0).toNat : Int)
      have hdl := dg_lt ((d.getD i 0).toNat : Int)
      obtain ⟨k1, k2⟩ := ref_digit (n := n) (c := dg ((d.getD i 0).toNat : Int)) hb hb1 hdg hdl hn
      have e := S10_18_eq L47 L48 L49 L50 base fr d (lim n) (i : Int) false []
      simp only [Int.toNat_natCast, decide_eq_true_eq, Int.ofNat_lt, hlt, if_true, show (0 : Int) ≤ (i : Int) by omega] at e
      rw [w32 (n := base) (by omega) (by omega), k1] at e
      simp only [Option.bind_some] at e
      rw [hf] at e
      simp only [Option.bind_some] at e
      rw [w32 hdg (by omega), L50_one hdg (by omega)] at e
      simp only [Option.bind_some] at e
      rw [k2] at e
      have e7 : IntKind.i64.wrap ((i : Int) + 1) = ((i + 1 : Nat) : Int) := by rw [wi (by omega) (by omega)]; omega
      simp only [Option.bind_some, e7] at e
      rw [h3] at hnum
      simp only [nums] at hnum
      by_cases hl : 200 < (lim ((n : Int) * base + dg ((d.getD i 0).toNat : Int)).toNat).length
      · right
        rw [if_pos (show ((lim ((n : Int) * base + dg ((d.getD i 0).toNat : Int)).toNat).length : Int) > 200 by omega)] at e
        rw [if_pos hl] at hnum
        refine ⟨_, e, ?_⟩
        rw [hnum]
      · left
        rw [if_neg (show ¬ (((lim ((n : Int) * base + dg ((d.getD i 0).toNat : Int)).toNat).length : Int) > 200) by omega)] at e
        rw [if_neg hl] at hnum
        exact ⟨_, e, ⟨i + 1, _, rfl, by omega, by omega, hnum⟩, by simp only [Int.toNat_natCast]; omega⟩
    · right
      refine ⟨_, ?_, rfl⟩
      rw [hnum, List.drop_of_length_le (by omega)]
      rw [S10_18_eq]
      simp only [decide_eq_true_eq, Int.ofNat_lt, hlt, if_false]
      rfl) ((base, (), fr, d, lim 0, ((0 : Nat) : Int), ()), ((false, [], ()), ())) ⟨0, 0, rfl, by omega, by rw [lim_zero]; simp, by simp⟩
  rw [lim_zero] at h1
  exact h1

/-- The program's loop. -/
theorem Lg11_8_spec {base : Int} {s d : List UInt8} (hb : 2 ≤ base) (hb1 : base ≤ 36) (hall : allD base d = true) :
    Lg11_8 ((s, base, (), [], (), ()), ((false, [], ()), (d, 0), ())) = some (match nums base d 0 with
      | some n => .inr ((s, (), lim n, ()), ((false, [], ()), ()))
      | none => .inl (((), 4, ()), ((false, [], ()), ()))) := by
  obtain ⟨z, h1, rfl⟩ := limL_ind (f := S11_8 L57 L58 L59 L60) (fun x => d.length - x.2.2.1.2)
    (fun x => ∃ p n : Nat, x = ((s, base, (), lim n, (), ()), ((false, [], ()), (d, p), ())) ∧ p ≤ d.length ∧ (lim n).length ≤ 200 ∧ nums base d 0 = nums base (d.drop p) n)
    (fun z => z = (match nums base d 0 with
      | some n => .inr ((s, (), lim n, ()), ((false, [], ()), ()))
      | none => .inl (((), 4, ()), ((false, [], ()), ())))) (by
    rintro x ⟨p, n, rfl, hi, hn, hnum⟩
    by_cases hlt : p < d.length
    · have h3 := drop_cons hlt
      have hdg := dg_nonneg ((d.getD p 0).toNat : Int)
      have hdl := dg_lt ((d.getD p 0).toNat : Int)
      have hin : d.getD p 0 ∈ d := by
        rw [List.getD_eq_getElem?_getD, List.getElem?_eq_getElem hlt]
        exact List.getElem_mem hlt
      have hbd : dg ((d.getD p 0).toNat : Int) < base := by
        unfold allD at hall
        have := List.all_eq_true.1 hall _ hin
        simpa using this
      have hc : (d.getD p 0).toNat < 128 := by
        rcases Nat.lt_or_ge (d.getD p 0).toNat 128 with q | q
        · exact q
        · rw [dg_high (by omega)] at hbd; omega
      have hf := L60_spec (c := ((d.getD p 0).toNat : Int)) (by omega) (by omega)
      obtain ⟨k1, k2⟩ := prog_digit (n := n) (c := dg ((d.getD p 0).toNat : Int)) hb hb1 hdg hdl hn
      have e := S11_8_eq L57 L58 L59 L60 s base (lim n) false [] d p
      rw [if_pos hlt, w32 (n := base) (by omega) (by omega), L58_spec (by omega) (by omega)] at e
      simp only [Option.bind_some] at e
      rw [k1] at e
      simp only [Option.bind_some] at e
      have hdec := decode_lo hlt hc
      rw [hdec] at e
      rw [hf] at e
      simp only [Option.bind_some] at e
      rw [w32 hdg (by omega), L58_spec hdg (by omega)] at e
      simp only [Option.bind_some] at e
      rw [k2] at e
      simp only [Option.bind_some, decide_eq_true_eq] at e
      rw [h3] at hnum
      simp only [nums] at hnum
      by_cases hl : 200 < (lim ((n : Int) * base + dg ((d.getD p 0).toNat : Int)).toNat).length
      · right
        rw [if_pos (show ((lim ((n : Int) * base + dg ((d.getD p 0).toNat : Int)).toNat).length : Int) > 200 by omega)] at e
        rw [if_pos hl] at hnum
        refine ⟨_, e, ?_⟩
        rw [hnum]
      · left
        rw [if_neg (show ¬ (((lim ((n : Int) * base + dg ((d.getD p 0).toNat : Int)).toNat).length : Int) > 200) by omega)] at e
        rw [if_neg hl] at hnum
        exact ⟨_, e, ⟨p + 1, _, rfl, by omega, by omega, hnum⟩, by show d.length - (p + 1) < d.length - p; omega⟩
    · right
      refine ⟨_, ?_, rfl⟩
      rw [hnum, List.drop_of_length_le (by omega)]
      rw [S11_8_eq, if_neg hlt]
      rfl) ((s, base, (), lim 0, (), ()), ((false, [], ()), (d, 0), ())) ⟨0, 0, rfl, by omega, by rw [lim_zero]; simp, by simp⟩
  rw [lim_zero] at h1
  exact h1
end Go.Proofs.Rf
