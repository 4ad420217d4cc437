/- Numerals: Parse of both texts comes to the same. -/
import Derived.Test.YtgkgjgcoalmldaaP6
namespace Go.Proofs.Rf
open Go

theorem nums_len {base : Int} : ∀ {d : List UInt8} {n m : Nat}, nums base d n = some m → (lim n).length ≤ 200 → (lim m).length ≤ 200
  | [], n, m, h, hn => by
    simp only [nums] at h
    injection h with h
    subst h
    exact hn
  | c :: r, n, m, h, hn => by
    simp only [nums] at h
    split at h
    · cases h
    · rename_i hl
      exact nums_len h (by omega)

/-- What is told of the digits. -/
def fin (neg : Bool) (base : Int) (d : List UInt8) : (Bool × List Int) × Int × Unit :=
  if allD base d = true then (match nums base d 0 with
    | some n => ((neg && decide (0 < (lim n).length), lim n), 0, ())
    | none => ((false, []), 4, ())) else ((false, []), 19, ())

theorem L51_spec {neg : Bool} {n : Nat} (hn : (lim n).length ≤ 200) : L51 (neg, lim n, ()) = some (((neg && decide (0 < (lim n).length), lim n), 0, ()), ()) := by
  show F51 L50 (neg, lim n, ()) = _
  have h := L50_spec (Wf_lim n) (by omega)
  rw [val_lim, Int.toNat_natCast] at h
  rw [F51_eq, h]
  simp only [Option.bind_some, decide_eq_true_eq]
  rw [if_neg (by omega)]
  cases neg with
  | true =>
    simp only [if_true, Bool.true_and]
    congr 4
    exact decide_eq_decide.2 (by omega)
  | false => simp

theorem ref_fin {base : Int} {fr : Int} {d : List UInt8} (hb : 2 ≤ base) (hb1 : base ≤ 36) (hd : d.length ≤ 7000) :
    ((Lg10_12 ((base, (), fr, d, 0, ()), (false, [], ()), ())).bind fun y =>
      Sum.elim (fun y => some (((y.2.1.1, y.2.1.2.1), y.1.2.1, ()), ()))
        (fun z => (Lg10_18 ((z.1.1, (), z.1.2.2.1, z.1.2.2.2.1, [], 0, ()), (z.2.1.1, z.2.1.2.1, ()), ())).bind fun y =>
          Sum.elim (fun y => some (((y.2.1.1, y.2.1.2.1), y.1.2.1, ()), ()))
            (fun z => (L51 (z.1.2.1 == 1, z.1.2.2.1, ())).bind fun y => some (((y.1.1.1, y.1.1.2), y.1.2.1, ()), ())) y) y : Option rs10.den) = some (fin (fr == 1) base d, ()) := by
  have h1 : Lg10_12 ((base, (), fr, d, 0, ()), (false, [], ()), ()) = _ := S10_12_spec (base := base) (fr := fr) (d := d) (by omega)
  rw [h1]
  unfold fin
  by_cases ha : allD base d = true
  · rw [if_pos ha, if_pos ha]
    simp only [Option.bind_some, Sum.elim_inr]
    have h2 := Lg10_18_spec (base := base) (fr := fr) (d := d) hb hb1 (by omega)
    rw [h2]
    cases hn : nums base d 0 with
    | none => rfl
    | some n =>
      simp only [Option.bind_some, Sum.elim_inr]
      have hl := nums_len hn (by rw [lim_zero]; simp)
      rw [L51_spec hl]
      rfl
  · rw [if_neg ha, if_neg ha]
    rfl

/-- What Parse comes to. -/
def outcome (s : List UInt8) (base : Int) : (Bool × List Int) × Int × Unit :=
  if base < 2 ∨ 36 < base then ((false, []), 3, ()) else
  if 7000 < s.length then ((false, []), 20, ()) else
  match s with
  | [] => ((false, []), 19, ())
  | c :: r => if c = 45 then (match r with
      | [] => ((false, []), 19, ())
      | x :: _ => if x = 48 then ((false, []), 19, ()) else fin true base r)
    else if c = 48 ∧ 0 < r.length then ((false, []), 19, ()) else fin false base (c :: r)

theorem u8eq {c : UInt8} {n : Nat} (hn : n < 256) : ((c.toNat : Int) == (n : Int)) = decide (c = UInt8.ofNat n) := by
  have h : (c.toNat : Int) = (n : Int) ↔ c = UInt8.ofNat n := by
    constructor
    · intro q
      have q : c.toNat = n := by omega
      rw [← q]
      simp
    · intro q
      rw [q]
      simp
      omega
  by_cases q : c = UInt8.ofNat n
  · rw [decide_eq_true q, beq_iff_eq]; exact h.2 q
  · rw [decide_eq_false q]
    exact beq_eq_false_iff_ne.2 fun e => q (h.1 e)

theorem L10_spec (s : List UInt8) (base : Int) : L10 (s, base, ()) = some (outcome s base, ()) := by
  show F10 L51 Lg10_12 Lg10_18 (s, base, ()) = _
  rw [F10_eq]
  unfold outcome
  simp only [decide_eq_true_eq]
  by_cases hb : base < 2
  · rw [if_pos hb, if_pos (.inl hb)]
  by_cases hb1 : base > 36
  · rw [if_neg hb, if_pos hb1, if_pos (.inr hb1)]
  rw [if_neg hb, if_neg hb1, if_neg (show ¬ (base < 2 ∨ 36 < base) by omega)]
  by_cases hl : 7000 < s.length
  · rw [if_pos (show (s.length : Int) > 7000 by omega), if_pos hl]
  rw [if_neg (show ¬ ((s.length : Int) > 7000) by omega), if_neg hl]
  have r1 := fun (d : List UInt8) (hd : d.length ≤ 7000) => ref_fin (base := base) (fr := 1) (d := d) (by omega) (by omega) hd
  have r0 := fun (d : List UInt8) (hd : d.length ≤ 7000) => ref_fin (base := base) (fr := 0) (d := d) (by omega) (by omega) hd
  cases s with
  | nil => simp
  | cons c r =>
    have q45 : (((c.toNat : Int) == 45) = true) = (c = 45) := by rw [show (45 : Int) = ((45 : Nat) : Int) from rfl, u8eq (by decide)]; simp
    have q48 : ∀ x : UInt8, (((x.toNat : Int) == 48) = true) = (x = 48) := fun x => by rw [show (48 : Int) = ((48 : Nat) : Int) from rfl, u8eq (by decide)]; simp
    have hlen : ((c :: r).length : Int) > 0 := by simp only [List.length_cons]; omega
    simp only [List.length_cons] at hl
    rw [if_pos hlen, if_pos hlen]
    simp only [List.getD_cons_zero, q45, List.drop_succ_cons, List.drop_zero]
    by_cases hc : c = 45
    · rw [if_pos hc, if_pos hc, if_pos (by omega), if_pos (Int.le_refl _)]
      cases r with
      | nil => simp
      | cons x t =>
        simp only [List.length_cons] at hl
        rw [if_neg (show ¬ ((x :: t == ([] : List UInt8)) = true) by simp), if_pos (show 0 < ((x :: t).length : Int) by simp only [List.length_cons]; omega)]
        simp only [List.getD_cons_zero, q48]
        by_cases hx : x = 48
        · rw [if_pos hx, if_pos hx]
          split <;> rfl
        · rw [if_neg hx, if_neg hx]
          exact r1 _ (by simp only [List.length_cons]; omega)
    · rw [if_neg hc, if_neg hc, if_pos (Int.le_refl _), if_neg (show ¬ ((c :: r == ([] : List UInt8)) = true) by simp), if_pos (show 0 < ((c :: r).length : Int) from hlen)]
      simp only [q48]
      by_cases hx : c = 48
      · rw [if_pos hx]
        by_cases hr : 0 < r.length
        · rw [if_pos (show ((c :: r).length : Int) > 1 by simp only [List.length_cons]; omega), if_pos (show c = 48 ∧ 0 < r.length from ⟨hx, hr⟩)]
        · rw [if_neg (show ¬ (((c :: r).length : Int) > 1) by simp only [List.length_cons]; omega), if_neg (show ¬ (c = 48 ∧ 0 < r.length) from fun q => hr q.2)]
          exact r0 _ (by simp only [List.length_cons]; omega)
      · rw [if_neg hx, if_neg (fun q => hx q.1)]
        exact r0 _ (by simp only [List.length_cons]; omega)
end Go.Proofs.Rf
