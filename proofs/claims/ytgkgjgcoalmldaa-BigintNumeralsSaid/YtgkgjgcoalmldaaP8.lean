/- Numerals: the program's Parse; the law. -/
import Derived.Test.YtgkgjgcoalmldaaP7
namespace Go.Proofs.Rf
open Go

/-- The first error. -/
theorem L52_spec {l : List Int} (hl : l.length < 1000000000) : L52 (l, ()) = some ((match l.find? (fun e => !(e == 0)) with
    | some e => e
    | none => 0, ()), ()) := by
  obtain ⟨z, h1, rfl⟩ := limL_ind (f := S52_2) (fun x => l.length - x.1.2.2.1.toNat)
    (fun x => ∃ i : Nat, x = ((l, (l.length : Int), (i : Int), ()), ()) ∧ i ≤ l.length ∧ l.find? (fun e => !(e == 0)) = (l.drop i).find? (fun e => !(e == 0)))
    (fun z => z = (match l.find? (fun e => !(e == 0)) with
      | some e => .inl ((e, ()), ())
      | none => .inr ((), ()))) (by
    rintro x ⟨i, rfl, hi, hall⟩
    by_cases hlt : i < l.length
    · have h3 : l.drop i = l.getD i 0 :: l.drop (i + 1) := by
        rw [List.drop_eq_getElem_cons hlt, List.getD_eq_getElem?_getD, List.getElem?_eq_getElem hlt]
        rfl
      have e := S52_2_eq l (l.length : Int) (i : Int)
      simp only [Int.toNat_natCast, decide_eq_true_eq, Int.ofNat_lt, hlt, if_true, show (0 : Int) ≤ (i : Int) by omega] at e
      have e7 : IntKind.i64.wrap ((i : Int) + 1) = ((i + 1 : Nat) : Int) := by rw [wi (by omega) (by omega)]; omega
      rw [e7] at e
      rw [h3, List.find?_cons] at hall
      cases hz : (!(l.getD i 0 == 0)) with
      | true =>
        rw [hz] at hall e
        right
        refine ⟨_, by rw [e]; rfl, ?_⟩
        rw [hall]
      | false =>
        rw [hz] at hall e
        left
        exact ⟨_, by rw [e]; rfl, ⟨i + 1, rfl, by omega, hall⟩, by simp only [Int.toNat_natCast]; omega⟩
    · right
      refine ⟨_, ?_, rfl⟩
      rw [hall, List.drop_of_length_le (by omega)]
      rw [S52_2_eq]
      simp only [decide_eq_true_eq, Int.ofNat_lt, hlt, if_false]
      rfl) ((l, (l.length : Int), ((0 : Nat) : Int), ()), ()) ⟨0, rfl, by omega, by simp⟩
  show F52 Lg52_2 (l, ()) = _
  rw [F52_eq, show Lg52_2 ((l, (l.length : Int), 0, ()), ()) = _ from h1]
  cases l.find? (fun e => !(e == 0)) <;> rfl

theorem L53_spec (b : Bool) (e : Int) : L53 (b, e, ()) = some ((if b = true then e else 0, ()), ()) := by
  show F53 (b, e, ()) = _
  rw [F53_eq]
  cases b <;> rfl

theorem L54_spec (n : Int) : L54 (n, ()) = some ((decide (2 ≤ n ∧ n ≤ 36), ()), ()) := by
  show F54 (n, ()) = _
  rw [F54_eq]
  simp only [decide_eq_true_eq, ge_iff_le]
  by_cases h : 2 ≤ n <;> by_cases h2 : n ≤ 36 <;> simp [h, h2]

/-- What stands behind the sign. -/
def bodyOfS : List UInt8 → List UInt8
  | [] => []
  | c :: r => if c = 45 then r else c :: r

theorem L56_spec (s : List UInt8) : L56 (s, [45], ()) = some ((bodyOfS s, ()), ()) := by
  have h112 : L112 (s, [45], ()) = some ((match s with
      | [] => false
      | c :: _ => decide (c = 45), ()), ()) := by
    show F112 (s, [45], ()) = _
    rw [F112_eq]
    cases s with
    | nil => rfl
    | cons c r =>
      have e1 : ((c :: r).length : Int) ≥ (([45] : List UInt8).length : Int) := by simp only [List.length_cons, List.length_nil]; omega
      simp only [decide_eq_true_eq]
      rw [if_pos e1, if_pos e1]
      have : (c == 45) = decide (c = 45) := by
        by_cases h : c = 45
        · rw [decide_eq_true h, beq_iff_eq]; exact h
        · rw [decide_eq_false h]; exact beq_eq_false_iff_ne.2 h
      simp [this]
  have h95 : L95 (s, [45], ()) = some ((bodyOfS s, ()), ()) := by
    show F95 L112 (s, [45], ()) = _
    rw [F95_eq, h112]
    cases s with
    | nil => rfl
    | cons c r =>
      have e1 : (([45] : List UInt8).length : Int) ≤ ((c :: r).length : Int) := by simp only [List.length_cons, List.length_nil]; omega
      simp only [Option.bind_some, decide_eq_true_eq, bodyOfS]
      by_cases hc : c = 45
      · rw [if_pos hc, if_pos hc, if_pos e1, if_pos (Int.le_refl _)]
        rfl
      · rw [if_neg hc, if_neg hc]
  show F56 L95 (s, [45], ()) = _
  rw [F56_eq, h95]
  rfl

theorem L61_spec (neg : Bool) {n : Nat} (hn : (lim n).length ≤ 200) : L61 (neg, lim n, ()) = some (((neg && decide (0 < (lim n).length), lim n), ()), ()) := by
  have h97 : L97 (lim n, ()) = some ((lim n, ()), ()) := by
    show C97 (lim n, ()) = _
    unfold C97
    rw [if_pos (by rw [Nat.ble_eq]; show (lim n).length ≤ _; omega)]
  show F61 L97 (neg, lim n, ()) = _
  rw [F61_eq, h97]
  cases neg with
  | true =>
    simp only [if_true, Bool.true_and, Option.bind_some]
    congr 4
    exact decide_eq_decide.2 (by omega)
  | false => simp

/-- The numeral's form. -/
theorem L55_spec {s : List UInt8} {base : Int} (hb1 : base ≤ 36) : L55 (s, base, ()) = some ((match s with
    | [] => false
    | c :: r => if c = 45 then (match r with
        | [] => false
        | x :: _ => if x = 48 then false else allD base r)
      else if c = 48 ∧ 0 < r.length then false else allD base (c :: r), ()), ()) := by
  have hloop : ∀ d : List UInt8, ((Lg55_5 ((base, (), ()), (d, 0), ())).bind fun y => Sum.elim (fun y => some ((y.1.1, ()), ())) (fun z => some ((true, ()), ())) y : Option rs55.den) = some ((allD base d, ()), ()) := by
    intro d
    rw [show Lg55_5 ((base, (), ()), (d, 0), ()) = _ from S55_5_spec (d := d) hb1]
    by_cases ha : allD base d = true
    · rw [if_pos ha, ha]; rfl
    · rw [if_neg ha]
      have : allD base d = false := by simpa using ha
      rw [this]
      rfl
  have q48 : ∀ x : UInt8, (((x.toNat : Int) == 48) = true) = (x = 48) := fun x => by rw [show (48 : Int) = ((48 : Nat) : Int) from rfl, u8eq (by decide)]; simp
  show F55 L56 Lg55_5 (s, base, ()) = _
  rw [F55_eq, L56_spec]
  simp only [Option.bind_some]
  cases s with
  | nil => rfl
  | cons c r =>
    simp only [bodyOfS]
    by_cases hc : c = 45
    · subst hc
      simp only [if_true]
      cases r with
      | nil => rfl
      | cons x t =>
        rw [if_neg (show ¬ ((x :: t == ([] : List UInt8)) = true) by simp)]
        by_cases ht : t = []
        · subst ht
          by_cases hx : x = 48
          · subst hx
            rfl
          · rw [if_neg (show ¬ (([45, x] == ([45, 48] : List UInt8)) = true) by simpa using hx), if_neg (show ¬ (decide (((([x] : List UInt8).length : Nat) : Int) > 1) = true) by simp), hloop]
            simp only [hx, if_false]
        · have htl : 0 < t.length := List.length_pos_iff.2 ht
          rw [if_neg (show ¬ ((45 :: x :: t == ([45, 48] : List UInt8)) = true) by simp [ht])]
          rw [if_pos (show decide ((((x :: t).length : Nat) : Int) > 1) = true by rw [decide_eq_true_eq]; simp only [List.length_cons]; omega), if_pos (show (0 : Int) < ((x :: t).length : Int) by simp only [List.length_cons]; omega)]
          simp only [List.getD_cons_zero, q48]
          by_cases hx : x = 48
          · rw [if_pos hx, if_pos hx]
          · rw [if_neg hx, if_neg hx, hloop]
    · simp only [hc, if_false]
      rw [if_neg (show ¬ ((c :: r == ([] : List UInt8)) = true) by simp), if_neg (show ¬ ((c :: r == ([45, 48] : List UInt8)) = true) by simp [hc])]
      by_cases hr : 0 < r.length
      · rw [if_pos (show decide ((((c :: r).length : Nat) : Int) > 1) = true by rw [decide_eq_true_eq]; simp only [List.length_cons]; omega), if_pos (show (0 : Int) < ((c :: r).length : Int) by simp only [List.length_cons]; omega)]
        simp only [List.getD_cons_zero, q48]
        by_cases hx : c = 48
        · rw [if_pos hx, if_pos ⟨hx, hr⟩]
        · rw [if_neg hx, if_neg (fun q => hx q.1), hloop]
      · rw [if_neg (show ¬ (decide ((((c :: r).length : Nat) : Int) > 1) = true) by rw [decide_eq_true_eq]; simp only [List.length_cons]; omega), hloop, if_neg (fun q => hr q.2)]

/-- The program's Parse comes to the same. -/
theorem L11_spec (s : List UInt8) (base : Int) : L11 (s, base, ()) = some (outcome s base, ()) := by
  show F11 L52 L53 L54 L55 L56 L61 Lg11_8 (s, base, ()) = _
  rw [F11_eq, L54_spec]
  simp only [Option.bind_some]
  rw [L53_spec]
  simp only [Option.bind_some]
  rw [L53_spec]
  simp only [Option.bind_some]
  rw [L52_spec (by simp)]
  simp only [Option.bind_some]
  unfold outcome
  by_cases hb : base < 2 ∨ 36 < base
  · have h1 : decide (2 ≤ base ∧ base ≤ 36) = false := by rw [decide_eq_false_iff_not]; omega
    rw [if_pos hb, h1]
    simp
  · have h1 : decide (2 ≤ base ∧ base ≤ 36) = true := by rw [decide_eq_true_eq]; omega
    rw [if_neg hb, h1]
    by_cases hl : 7000 < s.length
    · have h2 : decide ((s.length : Int) > 7000) = true := by rw [decide_eq_true_eq]; omega
      rw [if_pos hl, h2]
      simp
    · have h2 : decide ((s.length : Int) > 7000) = false := by rw [decide_eq_false_iff_not]; omega
      rw [if_neg hl, h2]
      have h3 : ∀ e : Int, (match List.find? (fun e => !(e == 0)) [if (!true) = true then (3 : Int) else 0, if false = true then (20 : Int) else 0] with
        | some e => e
        | none => 0) = 0 := fun _ => rfl
      rw [h3 0]
      rw [if_neg (show ¬ ((!((0 : Int) == 0)) = true) by decide), L55_spec (by omega)]
      simp only [Option.bind_some]
      -- behind the checks
      have htail : ∀ (c : UInt8) (r d : List UInt8) (neg : Bool), s = c :: r → bodyOfS s = d → neg = decide (c = 45) → (if (!(allD base d)) = true then some (((false, []), 19, ()), ()) else
          (L56 (s, [45], ())).bind fun y => (Lg11_8 ((s, base, (), [], (), ()), (false, [], ()), (y.1.1, 0), ())).bind fun y =>
            Sum.elim (fun y => some (((y.2.1.1, y.2.1.2.1), y.1.2.1, ()), ())) (fun z => if 0 < (↑(List.length z.1.1) : Int) then
              (L61 ((↑(List.getD z.1.1 0 (0 : UInt8)).toNat : Int) == 45, z.1.2.2.1, ())).bind fun y => some (((y.1.1.1, y.1.1.2), 0, ()), ()) else none) y : Option rs11.den) = some (fin neg base d, ()) := by
        intro c r d neg hs hd hneg
        unfold fin
        by_cases ha : allD base d = true
        · rw [if_neg (by rw [ha]; decide), if_pos ha, L56_spec, hd]
          simp only [Option.bind_some]
          rw [Lg11_8_spec (by omega) (by omega) ha]
          cases hn : nums base d 0 with
          | none => rfl
          | some n =>
            simp only [Option.bind_some, Sum.elim_inr]
            have hln := nums_len hn (by rw [lim_zero]; simp)
            have q45 : ((c.toNat : Int) == 45) = decide (c = 45) := by rw [show (45 : Int) = ((45 : Nat) : Int) from rfl, u8eq (by decide)]; rfl
            rw [hs]
            rw [if_pos (show (0 : Int) < ((c :: r).length : Int) by simp only [List.length_cons]; omega)]
            simp only [List.getD_cons_zero, q45]
            rw [L61_spec _ hln, hneg]
            rfl
        · have hf : allD base d = false := by simpa using ha
          rw [if_pos (by rw [hf]; rfl), if_neg ha]
      cases s with
      | nil => rfl
      | cons c r =>
        simp only
        by_cases hc : c = 45
        · simp only [hc, if_true]
          cases r with
          | nil => rfl
          | cons x t =>
            simp only
            by_cases hx : x = 48
            · simp only [hx, if_true, Bool.not_false]
            · have := htail c (x :: t) (x :: t) true rfl (by simp [bodyOfS, hc]) (by simp [hc])
              rw [hc] at this
              simp only [hx, if_false]
              exact this
        · simp only [hc, if_false]
          by_cases hx : c = 48 ∧ 0 < r.length
          · simp only [hx, and_self, if_true, Bool.not_false]
          · simp only [hx, if_false]
            exact htail c r (c :: r) false rfl (by simp [bodyOfS, hc]) (by simp [hc])
end Go.Proofs.Rf
