/- Numerals: the law returns true. -/
import Derived.Test.YtgkgjgcoalmldaaP8
import Derived.Test.YtgkgjgcoalmldaaP0
namespace Go.Proofs.Rf
open Go

/-- A number is the same as itself. -/
theorem L62_same {l : List Int} (hl : l.length < 1000000000) : L62 (l, l, ()) = some ((0, ()), ()) := by
  obtain ⟨z, h1, rfl⟩ := limL_ind (f := S62_6) (fun x => (x.1.2.2.1 + 1).toNat)
    (fun x => ∃ k : Nat, x = ((l, l, (k : Int) - 1, ()), ()) ∧ k ≤ l.length) (fun z => z = .inr ((), ())) (by
    rintro x ⟨k, rfl, hk⟩
    have e := S62_6_eq l l ((k : Int) - 1)
    by_cases h0 : k = 0
    · right
      subst h0
      refine ⟨_, ?_, rfl⟩
      rw [e]
      simp
    · left
      have e1 : ((k : Int) - 1).toNat = k - 1 := by omega
      have e2 : IntKind.i64.wrap ((k : Int) - 1 - 1) = ((k - 1 : Nat) : Int) - 1 := by rw [wi (by omega) (by omega)]; omega
      have p1 : ((k : Int) - 1 ≥ 0) := by omega
      have p3 : (k : Int) - 1 < (l.length : Int) := by omega
      simp only [e1, e2, decide_eq_true_eq, p1, p3, if_true, Int.lt_irrefl, gt_iff_lt, if_false] at e
      exact ⟨_, e, ⟨k - 1, rfl, by omega⟩, by show (((k - 1 : Nat) : Int) - 1 + 1).toNat < ((k : Int) - 1 + 1).toNat; omega⟩) ((l, l, ((l.length : Nat) : Int) - 1, ()), ()) ⟨l.length, rfl, Nat.le_refl _⟩
  show F62 Lg62_6 (l, l, ()) = _
  have hw : IntKind.i64.wrap ((l.length : Int) - 1) = (l.length : Int) - 1 := wi (by omega) (by omega)
  rw [F62_eq, hw, show Lg62_6 ((l, l, (l.length : Int) - 1, ()), ()) = _ from h1]
  simp

theorem L12_same {neg : Bool} {l : List Int} (hl : l.length < 1000000000) : L12 ((neg, l), (neg, l), ()) = some ((true, ()), ()) := by
  show F12 L62 ((neg, l), (neg, l), ()) = _
  rw [F12_eq, L62_same hl]
  simp

theorem L13_id (x : Bool × List Int) : L13 (x, ()) = some ((x, ()), ()) := by
  obtain ⟨neg, l⟩ := x
  show F13 ((neg, l), ()) = _
  rw [F13_eq]

theorem fin_len (neg : Bool) (base : Int) (d : List UInt8) : (fin neg base d).1.2.length ≤ 200 := by
  unfold fin
  split
  · split
    · rename_i n hn
      exact nums_len hn (by rw [lim_zero]; simp)
    · simp
  · simp

theorem outcome_len (s : List UInt8) (base : Int) : (outcome s base).1.2.length ≤ 200 := by
  unfold outcome
  split
  · simp
  · split
    · simp
    · split
      · simp
      · split
        · split
          · simp
          · split
            · simp
            · exact fin_len _ _ _
        · split
          · simp
          · exact fin_len _ _ _

noncomputable def law3 : (SV.denL ps3) → Option (rs3).den := F3 K9 L10 L11 L12 L13

theorem law3_ok : CallOK Try.prog 3 (mkCall ps3 rs3 law3) := call3 okL10 okL11 okL12 okL13 okK9

theorem law3_of {K : (SV.denL ps9) → Option (rs9).den} (hK : K () = some ((true, ()), ())) (s : List UInt8) (base : Int) : F3 K L10 L11 L12 L13 (s, base, ()) = some ((true, ()), ()) := by
  rw [F3_eq]
  have h10 := L10_spec s base
  have h11 := L11_spec s base
  obtain ⟨neg, l, e, ho⟩ : ∃ neg l e, outcome s base = ((neg, l), e, ()) := ⟨_, _, _, rfl⟩
  have hl : l.length ≤ 200 := by have := outcome_len s base; rw [ho] at this; exact this
  rw [ho] at h10 h11
  have main : ((L10 (s, base, ())).bind fun y =>
      (L11 (s, base, ())).bind fun y_1 =>
        (L13 ((y_1.1.1.1, y_1.1.1.2), ())).bind fun y_2 =>
          (L12 ((y.1.1.1, y.1.1.2), (y_2.1.1.1, y_2.1.1.2), ())).bind fun y_3 =>
            if y_3.1.1 = true then
              if (y_1.1.2.1 == y.1.2.1) = true then (K ()).bind fun y => some ((y.1.1, ()), ())
              else some ((false, ()), ())
            else some ((false, ()), ()) : Option rs3.den) = some ((true, ()), ()) := by
    rw [h10, h11]
    simp only [Option.bind_some]
    rw [L13_id]
    simp only [Option.bind_some]
    rw [L12_same (by omega)]
    simp only [Option.bind_some, if_true, beq_self_eq_true]
    rw [hK]
    rfl
  rw [main]
  rw [hK]
  simp

theorem law3_true (s : List UInt8) (base : Int) : law3 (s, base, ()) = some ((true, ()), ()) := law3_of K9_val s base
end Go.Proofs.Rf
