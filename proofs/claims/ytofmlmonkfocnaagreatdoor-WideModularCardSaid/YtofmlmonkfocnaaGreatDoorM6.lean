/- Texts put together: W28, Gx01, Dr01. -/
import Derived.Test.YtofmlmonkfocnaaGreatDoorM5
import Derived.Test.YtofmlmonkfocnaaGreatDoorRows
import Derived.WalkKit
import Derived.ProofKit
import Derived.OpenShut
import Derived.LaidMore
import Derived.LaidSub
import Derived.ChangeArms
import Derived.Lib.LaidU8
import Derived.Lib.LaidTab
import Derived.Lib.ItoaNum
import Derived.Stop.Joined
import Derived.Lay
/- The law of sums and products of bits returns true. -/
namespace Go.Proofs.Rf
open Go Go.RowKit

theorem S7_r0 (F9 : (SV.denL ps9) → Option (rs9).den) (F10 : (SV.denL ps10) → Option (rs10).den) (F11 : (SV.denL ps11) → Option (rs11).den) (F15 : (SV.denL ps15) → Option (rs15).den) (F21 : (SV.denL ps21) → Option (rs21).den) (F27 : (SV.denL ps27) → Option (rs27).den) (F28 : (SV.denL ps28) → Option (rs28).den) (F29 : (SV.denL ps29) → Option (rs29).den) (F30 : (SV.denL ps30) → Option (rs30).den) (F31 : (SV.denL ps31) → Option (rs31).den) (F32 : (SV.denL ps32) → Option (rs32).den) (F33 : (SV.denL ps33) → Option (rs33).den) (F34 : (SV.denL ps34) → Option (rs34).den) (F35 : (SV.denL ps35) → Option (rs35).den) (F36 : (SV.denL ps36) → Option (rs36).den) (t a b : List UInt8) (m u v w : Int) : S7_13 F9 F10 F11 F15 F21 F27 F28 F29 F30 F31 F32 F33 F34 F35 F36 ((t, a, b, m, (), 3, 0, ()), ([u, v, w], ())) = (
  (F29 (a, b, ())).bind fun y => (F21 (t, y.1.1, ())).bind fun y_1 =>
    if (!y.1.2.1 == 0) = true then some (Sum.inr (Sum.inl ((false, ()), ())))
    else if (!y_1.1.2.1 == 0) = true then some (Sum.inr (Sum.inl ((false, ()), ())))
    else if (!y_1.1.1 == bitop BinOp.and IntKind.u64 u m) = true then some (Sum.inr (Sum.inl ((false, ()), ())))
    else some (Sum.inl ((t, a, b, m, (), 3, 1, ()), ([u, v, w], ()))) : Option (sh7_13.den ⊕ denX w7_13)) := by kernel_rfl

theorem S7_r1 (F9 : (SV.denL ps9) → Option (rs9).den) (F10 : (SV.denL ps10) → Option (rs10).den) (F11 : (SV.denL ps11) → Option (rs11).den) (F15 : (SV.denL ps15) → Option (rs15).den) (F21 : (SV.denL ps21) → Option (rs21).den) (F27 : (SV.denL ps27) → Option (rs27).den) (F28 : (SV.denL ps28) → Option (rs28).den) (F29 : (SV.denL ps29) → Option (rs29).den) (F30 : (SV.denL ps30) → Option (rs30).den) (F31 : (SV.denL ps31) → Option (rs31).den) (F32 : (SV.denL ps32) → Option (rs32).den) (F33 : (SV.denL ps33) → Option (rs33).den) (F34 : (SV.denL ps34) → Option (rs34).den) (F35 : (SV.denL ps35) → Option (rs35).den) (F36 : (SV.denL ps36) → Option (rs36).den) (t a b : List UInt8) (m u v w : Int) : S7_13 F9 F10 F11 F15 F21 F27 F28 F29 F30 F31 F32 F33 F34 F35 F36 ((t, a, b, m, (), 3, 1, ()), ([u, v, w], ())) = (
  (F30 (a, b, ())).bind fun y => (F21 (t, y.1.1, ())).bind fun y_1 =>
    if (!y.1.2.1 == 0) = true then some (Sum.inr (Sum.inl ((false, ()), ())))
    else if (!y_1.1.2.1 == 0) = true then some (Sum.inr (Sum.inl ((false, ()), ())))
    else if (!y_1.1.1 == bitop BinOp.and IntKind.u64 v m) = true then some (Sum.inr (Sum.inl ((false, ()), ())))
    else some (Sum.inl ((t, a, b, m, (), 3, 2, ()), ([u, v, w], ()))) : Option (sh7_13.den ⊕ denX w7_13)) := by kernel_rfl

theorem S7_r2 (F9 : (SV.denL ps9) → Option (rs9).den) (F10 : (SV.denL ps10) → Option (rs10).den) (F11 : (SV.denL ps11) → Option (rs11).den) (F15 : (SV.denL ps15) → Option (rs15).den) (F21 : (SV.denL ps21) → Option (rs21).den) (F27 : (SV.denL ps27) → Option (rs27).den) (F28 : (SV.denL ps28) → Option (rs28).den) (F29 : (SV.denL ps29) → Option (rs29).den) (F30 : (SV.denL ps30) → Option (rs30).den) (F31 : (SV.denL ps31) → Option (rs31).den) (F32 : (SV.denL ps32) → Option (rs32).den) (F33 : (SV.denL ps33) → Option (rs33).den) (F34 : (SV.denL ps34) → Option (rs34).den) (F35 : (SV.denL ps35) → Option (rs35).den) (F36 : (SV.denL ps36) → Option (rs36).den) (t a b : List UInt8) (m u v w : Int) : S7_13 F9 F10 F11 F15 F21 F27 F28 F29 F30 F31 F32 F33 F34 F35 F36 ((t, a, b, m, (), 3, 2, ()), ([u, v, w], ())) = (
  (F31 (a, b, ())).bind fun y => (F21 (t, y.1.1, ())).bind fun y_1 =>
    if (!y.1.2.1 == 0) = true then some (Sum.inr (Sum.inl ((false, ()), ())))
    else if (!y_1.1.2.1 == 0) = true then some (Sum.inr (Sum.inl ((false, ()), ())))
    else if (!y_1.1.1 == bitop BinOp.and IntKind.u64 w m) = true then some (Sum.inr (Sum.inl ((false, ()), ())))
    else some (Sum.inl ((t, a, b, m, (), 3, 3, ()), ([u, v, w], ()))) : Option (sh7_13.den ⊕ denX w7_13)) := by kernel_rfl

theorem S7_r3 (F9 : (SV.denL ps9) → Option (rs9).den) (F10 : (SV.denL ps10) → Option (rs10).den) (F11 : (SV.denL ps11) → Option (rs11).den) (F15 : (SV.denL ps15) → Option (rs15).den) (F21 : (SV.denL ps21) → Option (rs21).den) (F27 : (SV.denL ps27) → Option (rs27).den) (F28 : (SV.denL ps28) → Option (rs28).den) (F29 : (SV.denL ps29) → Option (rs29).den) (F30 : (SV.denL ps30) → Option (rs30).den) (F31 : (SV.denL ps31) → Option (rs31).den) (F32 : (SV.denL ps32) → Option (rs32).den) (F33 : (SV.denL ps33) → Option (rs33).den) (F34 : (SV.denL ps34) → Option (rs34).den) (F35 : (SV.denL ps35) → Option (rs35).den) (F36 : (SV.denL ps36) → Option (rs36).den) (t a b : List UInt8) (m u v w : Int) : S7_13 F9 F10 F11 F15 F21 F27 F28 F29 F30 F31 F32 F33 F34 F35 F36 ((t, a, b, m, (), 3, 3, ()), ([u, v, w], ())) = (
  some (Sum.inr (Sum.inr ((a, b, ()), ()))) : Option (sh7_13.den ⊕ denX w7_13)) := by kernel_rfl

theorem S7_q0 (F9 : (SV.denL ps9) → Option (rs9).den) (F10 : (SV.denL ps10) → Option (rs10).den) (F11 : (SV.denL ps11) → Option (rs11).den) (F15 : (SV.denL ps15) → Option (rs15).den) (F21 : (SV.denL ps21) → Option (rs21).den) (F27 : (SV.denL ps27) → Option (rs27).den) (F28 : (SV.denL ps28) → Option (rs28).den) (F29 : (SV.denL ps29) → Option (rs29).den) (F30 : (SV.denL ps30) → Option (rs30).den) (F31 : (SV.denL ps31) → Option (rs31).den) (F32 : (SV.denL ps32) → Option (rs32).den) (F33 : (SV.denL ps33) → Option (rs33).den) (F34 : (SV.denL ps34) → Option (rs34).den) (F35 : (SV.denL ps35) → Option (rs35).den) (F36 : (SV.denL ps36) → Option (rs36).den) (a b : List UInt8) : S7_29 F9 F10 F11 F15 F21 F27 F28 F29 F30 F31 F32 F33 F34 F35 F36 ((a, b, (), 2, 0, ()), ([33, 34], ())) = (
  (F32 (a, b, ())).bind fun y =>
    if (!y.1.2.2.1 == 0) = true then some (Sum.inr (Sum.inl ((false, ()), ())))
    else (F31 (y.1.1, b, ())).bind fun y_1 => (F29 (y_1.1.1, y.1.2.1, ())).bind fun y_2 =>
    if (!y_1.1.2.1 == 0) = true then some (Sum.inr (Sum.inl ((false, ()), ())))
    else if (!y_2.1.2.1 == 0) = true then some (Sum.inr (Sum.inl ((false, ()), ())))
    else if (!y_2.1.1 == a) = true then some (Sum.inr (Sum.inl ((false, ()), ())))
    else some (Sum.inl ((a, b, (), 2, 1, ()), ([33, 34], ()))) : Option (sh7_29.den ⊕ denX w7_29)) := by kernel_rfl

theorem S7_q1 (F9 : (SV.denL ps9) → Option (rs9).den) (F10 : (SV.denL ps10) → Option (rs10).den) (F11 : (SV.denL ps11) → Option (rs11).den) (F15 : (SV.denL ps15) → Option (rs15).den) (F21 : (SV.denL ps21) → Option (rs21).den) (F27 : (SV.denL ps27) → Option (rs27).den) (F28 : (SV.denL ps28) → Option (rs28).den) (F29 : (SV.denL ps29) → Option (rs29).den) (F30 : (SV.denL ps30) → Option (rs30).den) (F31 : (SV.denL ps31) → Option (rs31).den) (F32 : (SV.denL ps32) → Option (rs32).den) (F33 : (SV.denL ps33) → Option (rs33).den) (F34 : (SV.denL ps34) → Option (rs34).den) (F35 : (SV.denL ps35) → Option (rs35).den) (F36 : (SV.denL ps36) → Option (rs36).den) (a b : List UInt8) : S7_29 F9 F10 F11 F15 F21 F27 F28 F29 F30 F31 F32 F33 F34 F35 F36 ((a, b, (), 2, 1, ()), ([33, 34], ())) = (
  (F33 (a, b, ())).bind fun y =>
    if (!y.1.2.2.1 == 0) = true then some (Sum.inr (Sum.inl ((false, ()), ())))
    else (F31 (y.1.1, b, ())).bind fun y_1 => (F29 (y_1.1.1, y.1.2.1, ())).bind fun y_2 =>
    if (!y_1.1.2.1 == 0) = true then some (Sum.inr (Sum.inl ((false, ()), ())))
    else if (!y_2.1.2.1 == 0) = true then some (Sum.inr (Sum.inl ((false, ()), ())))
    else if (!y_2.1.1 == a) = true then some (Sum.inr (Sum.inl ((false, ()), ())))
    else if (!y.1.2.1 == [48]) = true then
      if 0 < ((List.length y.1.2.1 : Nat) : Int) then
        if 0 < ((List.length b : Nat) : Int) then
          if (!((((List.getD y.1.2.1 0 (0 : UInt8)).toNat : Nat) : Int) == 45) == ((((List.getD b 0 (0 : UInt8)).toNat : Nat) : Int) == 45)) = true then some (Sum.inr (Sum.inl ((false, ()), ())))
          else some (Sum.inl ((a, b, (), 2, 2, ()), ([33, 34], ())))
        else none
      else none
    else some (Sum.inl ((a, b, (), 2, 2, ()), ([33, 34], ()))) : Option (sh7_29.den ⊕ denX w7_29)) := by kernel_rfl

theorem S7_q2 (F9 : (SV.denL ps9) → Option (rs9).den) (F10 : (SV.denL ps10) → Option (rs10).den) (F11 : (SV.denL ps11) → Option (rs11).den) (F15 : (SV.denL ps15) → Option (rs15).den) (F21 : (SV.denL ps21) → Option (rs21).den) (F27 : (SV.denL ps27) → Option (rs27).den) (F28 : (SV.denL ps28) → Option (rs28).den) (F29 : (SV.denL ps29) → Option (rs29).den) (F30 : (SV.denL ps30) → Option (rs30).den) (F31 : (SV.denL ps31) → Option (rs31).den) (F32 : (SV.denL ps32) → Option (rs32).den) (F33 : (SV.denL ps33) → Option (rs33).den) (F34 : (SV.denL ps34) → Option (rs34).den) (F35 : (SV.denL ps35) → Option (rs35).den) (F36 : (SV.denL ps36) → Option (rs36).den) (a b : List UInt8) : S7_29 F9 F10 F11 F15 F21 F27 F28 F29 F30 F31 F32 F33 F34 F35 F36 ((a, b, (), 2, 2, ()), ([33, 34], ())) = (
  some (Sum.inr (Sum.inr ((), ()))) : Option (sh7_29.den ⊕ denX w7_29)) := by kernel_rfl

noncomputable def T7 (A : (SV.denL ps10) → Option (rs10).den) := S7_13 L9 A L11 L15 L21 L27 L28 L29 L30 L31 L32 L33 L34 L35 L36
noncomputable def U7 (A : (SV.denL ps10) → Option (rs10).den) := S7_29 L9 A L11 L15 L21 L27 L28 L29 L30 L31 L32 L33 L34 L35 L36

/-! ### Short numbers -/
theorem abs40 {s : List UInt8} (h : ciErr s = 0) (hl : s.length ≤ 40) : (sv s).natAbs < 10 ^ 40 := by
  have h1 := (ci_str h).1
  have h2 : (dec (sv s).natAbs).length ≤ s.length := by
    have h3 : (str (sv s)).length = s.length := by rw [← h1]
    unfold str at h3
    split at h3
    · simp at h3
      omega
    · omega
  have h4 := dv_lt (dec_IsD (sv s).natAbs)
  rw [dv_dec] at h4
  exact Nat.lt_of_lt_of_le h4 (Nat.pow_le_pow_right (by decide) (by omega))

theorem len100 {z : Int} (h : z.natAbs < 10 ^ 100) : (dec z.natAbs).length ≤ 100 := dec_length_le h (by decide)

theorem ci_len {z : Int} (h : z.natAbs < 10 ^ 100) : ciErr (str z) = 0 := ci_of_str (len100 h)

theorem rsZ_100 {z : Int} (h : z.natAbs < 10 ^ 100) : rsZ z = (str z, 0, ()) := rsZ_small (len100 h)

theorem opZ_str {f : Int → Int → Int} {a b : List UInt8} (ha : ciErr a = 0) (hb : ciErr b = 0) (h : (f (sv a) (sv b)).natAbs < 10 ^ 100) : opZ f a b = (str (f (sv a) (sv b)), 0, ()) := by
  unfold opZ
  rw [if_pos (by unfold e2; rw [if_pos ha]; exact hb), rsZ_100 h]

theorem mul100 {x y : Int} (hx : x.natAbs ≤ 10 ^ 40) (hy : y.natAbs ≤ 10 ^ 40) : (x * y).natAbs < 10 ^ 100 := by
  rw [Int.natAbs_mul]
  have := Nat.mul_le_mul hx hy
  omega

theorem pTS_str {t : List UInt8} {z : Int} (h : tyErr t = 0) (hz : z.natAbs < 10 ^ 100) : pTS t (str z) = (z % ((2 ^ tyN t : Nat) : Int), 0, ()) := by
  unfold pTS wTS
  rw [if_pos (by unfold eTS; rw [if_pos h]; exact ci_len hz), sv_str]

/-- The due bits are those of the result. -/
theorem due_add {x y : Int} {n : Nat} (hn : n ≤ 64) : bitop BinOp.and IntKind.u64 (IntKind.u64.wrap (x % ((2 ^ n : Nat) : Int) + y % ((2 ^ n : Nat) : Int))) ((2 ^ n - 1 : Nat) : Int) = (x + y) % ((2 ^ n : Nat) : Int) := by
  rw [wu64, and_low hn, ← Int.add_emod]
theorem due_sub {x y : Int} {n : Nat} (hn : n ≤ 64) : bitop BinOp.and IntKind.u64 (IntKind.u64.wrap (x % ((2 ^ n : Nat) : Int) - y % ((2 ^ n : Nat) : Int))) ((2 ^ n - 1 : Nat) : Int) = (x - y) % ((2 ^ n : Nat) : Int) := by
  rw [wu64, and_low hn, ← Int.sub_emod]
theorem due_mul {x y : Int} {n : Nat} (hn : n ≤ 64) : bitop BinOp.and IntKind.u64 (IntKind.u64.wrap (x % ((2 ^ n : Nat) : Int) * (y % ((2 ^ n : Nat) : Int)))) ((2 ^ n - 1 : Nat) : Int) = (x * y) % ((2 ^ n : Nat) : Int) := by
  rw [wu64, and_low hn, ← Int.mul_emod]

theorem g7_round {t : List UInt8} {z d : Int} {u v : Option (sh7_13.den ⊕ denX w7_13)} (h : tyErr t = 0) (hz : z.natAbs < 10 ^ 100) (hd : z % ((2 ^ tyN t : Nat) : Int) = d) :
    ((some ((str z, 0, ()), ()) : Option ((List UInt8 × Int × Unit) × Unit)).bind fun y => (L21 (t, y.1.1, ())).bind fun y_1 =>
    if (!y.1.2.1 == 0) = true then v
    else if (!y_1.1.2.1 == 0) = true then v
    else if (!y_1.1.1 == d) = true then v else u) = u := by
  simp only [Option.bind_some]
  rw [L21_spec, pTS_str h hz]
  simp only [Option.bind_some]
  rw [hd]
  simp only [beq_self_eq_true, Bool.not_true, Bool.false_eq_true, if_false]

theorem g7_spec (A : (SV.denL ps10) → Option (rs10).den) {t a b : List UInt8} (h : tyErr t = 0) (ha : ciErr a = 0) (hb : ciErr b = 0) (hla : a.length ≤ 40) (hlb : b.length ≤ 40) :
    limL (T7 A) ((t, a, b, ((2 ^ tyN t - 1 : Nat) : Int), (), 3, 0, ()), ([IntKind.u64.wrap (wTS t a + wTS t b), IntKind.u64.wrap (wTS t a - wTS t b), IntKind.u64.wrap (wTS t a * wTS t b)], ())) = some (Sum.inr ((a, b, ()), ())) := by
  obtain ⟨_, hn, _⟩ := tyN_le h
  have xa := abs40 ha hla
  have xb := abs40 hb hlb
  have p1 : (sv a + sv b).natAbs < 10 ^ 100 := by omega
  have p2 : (sv a - sv b).natAbs < 10 ^ 100 := by omega
  have p3 : (sv a * sv b).natAbs < 10 ^ 100 := mul100 (by omega) (by omega)
  have d1 := due_add (x := sv a) (y := sv b) hn
  have d2 := due_sub (x := sv a) (y := sv b) hn
  have d3 := due_mul (x := sv a) (y := sv b) hn
  unfold wTS
  generalize IntKind.u64.wrap (sv a % ((2 ^ tyN t : Nat) : Int) + sv b % ((2 ^ tyN t : Nat) : Int)) = u at *
  generalize IntKind.u64.wrap (sv a % ((2 ^ tyN t : Nat) : Int) - sv b % ((2 ^ tyN t : Nat) : Int)) = v at *
  generalize IntKind.u64.wrap (sv a % ((2 ^ tyN t : Nat) : Int) * (sv b % ((2 ^ tyN t : Nat) : Int))) = w at *
  have h0 : T7 A ((t, a, b, ((2 ^ tyN t - 1 : Nat) : Int), (), 3, 0, ()), ([u, v, w], ())) = some (.inl ((t, a, b, ((2 ^ tyN t - 1 : Nat) : Int), (), 3, 1, ()), ([u, v, w], ()))) := by
    unfold T7
    rw [S7_r0, L29_spec, opZ_str ha hb p1]
    exact g7_round h p1 d1.symm
  have h1 : T7 A ((t, a, b, ((2 ^ tyN t - 1 : Nat) : Int), (), 3, 1, ()), ([u, v, w], ())) = some (.inl ((t, a, b, ((2 ^ tyN t - 1 : Nat) : Int), (), 3, 2, ()), ([u, v, w], ()))) := by
    unfold T7
    rw [S7_r1, L30_spec, opZ_str ha hb p2]
    exact g7_round h p2 d2.symm
  have h2 : T7 A ((t, a, b, ((2 ^ tyN t - 1 : Nat) : Int), (), 3, 2, ()), ([u, v, w], ())) = some (.inl ((t, a, b, ((2 ^ tyN t - 1 : Nat) : Int), (), 3, 3, ()), ([u, v, w], ()))) := by
    unfold T7
    rw [S7_r2, L31_spec, opZ_str ha hb p3]
    exact g7_round h p3 d3.symm
  rw [limL_go h0, limL_go h1, limL_go h2]
  exact limL_end (by unfold T7; rw [S7_r3])

/-! ### Quotients -/
theorem fl_back (x y : Int) : flq x y * y + flr x y = x := by
  have h := Int.tdiv_mul_add_tmod x y
  unfold flq flr
  split
  · rw [Int.sub_mul]
    omega
  · exact h

theorem fl_sign {x y : Int} (h : y ≠ 0) (hr : flr x y ≠ 0) : flr x y < 0 ↔ y < 0 := by
  have h1 := tmod_abs (x := x) h
  unfold flr at hr ⊢
  by_cases c : x.tmod y ≠ 0 ∧ ¬ (x.tmod y < 0 ↔ y < 0)
  · rw [if_pos c] at hr ⊢
    obtain ⟨c1, c2⟩ := c
    omega
  · rw [if_neg c] at hr ⊢
    by_cases c2 : x.tmod y < 0 ↔ y < 0
    · exact c2
    · exact absurd ⟨hr, c2⟩ c

theorem flq_abs (x y : Int) : (flq x y).natAbs ≤ x.natAbs + 1 := by
  have := tdiv_abs x y
  unfold flq
  split <;> omega

theorem qrZ_str {f g : Int → Int → Int} {a b : List UInt8} (ha : ciErr a = 0) (hb : ciErr b = 0) (h0 : b ≠ [48]) (h : (f (sv a) (sv b)).natAbs < 10 ^ 100) : qrZ f g a b = (str (f (sv a) (sv b)), str (g (sv a) (sv b)), 0, ()) := by
  unfold qrZ
  have h2 : e2 a b = 0 := by unfold e2; rw [if_pos ha]; exact hb
  rw [if_pos (by unfold e3; rw [if_pos h2, if_neg h0])]
  exact if_neg (by have := len100 h; omega)

theorem u7_round {a b : List UInt8} {q r : Int} {u v : Option (sh7_29.den ⊕ denX w7_29)} (ha : ciErr a = 0) (hb : ciErr b = 0) (hq : q.natAbs ≤ 10 ^ 40) (hbb : (sv b).natAbs ≤ 10 ^ 40) (hr : r.natAbs < 10 ^ 40) (e : q * sv b + r = sv a) :
    ((L31 (str q, b, ())).bind fun y_1 => (L29 (y_1.1.1, str r, ())).bind fun y_2 =>
    if (!y_1.1.2.1 == 0) = true then v
    else if (!y_2.1.2.1 == 0) = true then v
    else if (!y_2.1.1 == a) = true then v else u) = u := by
  have p1 : (q * sv b).natAbs < 10 ^ 100 := mul100 hq hbb
  have c1 : ciErr (str q) = 0 := ci_len (by omega)
  have c2 : ciErr (str r) = 0 := ci_len (by omega)
  have c3 : ciErr (str (q * sv b)) = 0 := ci_len p1
  have e1 : sv (str q) * sv b = q * sv b := by rw [sv_str]
  have e2' : sv (str (q * sv b)) + sv (str r) = sv a := by rw [sv_str, sv_str, e]
  have pa : (sv a).natAbs < 10 ^ 100 := by
    have h1 := (ci_str ha).2
    have h2 := dv_lt (dec_IsD (sv a).natAbs)
    rw [dv_dec] at h2
    exact Nat.lt_of_lt_of_le h2 (Nat.pow_le_pow_right (by decide) h1)
  have o1 := opZ_str (f := (· * ·)) c1 hb (show (sv (str q) * sv b).natAbs < 10 ^ 100 by rw [e1]; exact p1)
  have o2 := opZ_str (f := (· + ·)) c3 c2 (show (sv (str (q * sv b)) + sv (str r)).natAbs < 10 ^ 100 by rw [e2']; exact pa)
  rw [e1] at o1
  rw [e2', ← (ci_str ha).1] at o2
  rw [L31_spec, o1]
  simp only [Option.bind_some]
  rw [L29_spec, o2]
  simp only [Option.bind_some, beq_self_eq_true, Bool.not_true, Bool.false_eq_true, if_false]

theorem head45 (z : Int) : 0 < (str z).length ∧ (((((str z).getD 0 (0 : UInt8)).toNat : Nat) : Int) == 45) = decide (z < 0) := by
  have h1 := (body_str z).2
  have hne : str z ≠ [] := by
    unfold str
    split
    · simp
    · exact dec_ne _
  refine ⟨List.length_pos_iff.2 hne, ?_⟩
  rw [← h1]
  unfold isNeg
  rw [Bool.eq_iff_iff, beq_iff_eq, beq_iff_eq]
  constructor
  · intro h
    exact UInt8.toNat_inj.1 (show ((str z).getD 0 0).toNat = (45 : UInt8).toNat by show _ = 45; omega)
  · intro h
    rw [h]
    rfl

theorem str_0 {z : Int} : (!str z == [48]) = !decide (z = 0) := by
  have h0 : str 0 = [48] := (str_nat 0).trans (dec_small (by decide))
  refine congrArg (fun b => !b) ?_
  rw [Bool.eq_iff_iff, beq_iff_eq, decide_eq_true_eq]
  constructor
  · intro h
    have := congrArg sv (h.trans h0.symm)
    rwa [sv_str, sv_str] at this
  · intro h
    rw [h, h0]

theorem u7_spec (A : (SV.denL ps10) → Option (rs10).den) {a b : List UInt8} (ha : ciErr a = 0) (hb : ciErr b = 0) (h0 : b ≠ [48]) (hla : a.length ≤ 40) (hlb : b.length ≤ 40) :
    limL (U7 A) ((a, b, (), 2, 0, ()), ([33, 34], ())) = some (Sum.inr ((), ())) := by
  have hz := sv_ne hb h0
  have xa := abs40 ha hla
  have xb := abs40 hb hlb
  have q1 := tdiv_abs (sv a) (sv b)
  have r1 := tmod_abs (x := sv a) hz
  have q2 := flq_abs (sv a) (sv b)
  have r2 := flr_abs (x := sv a) hz
  have z1 := qrZ_str (f := Int.tdiv) (g := Int.tmod) ha hb h0 (by omega)
  have z2 := qrZ_str (f := flq) (g := flr) ha hb h0 (by omega)
  have g0 : U7 A ((a, b, (), 2, 0, ()), ([33, 34], ())) = some (.inl ((a, b, (), 2, 1, ()), ([33, 34], ()))) := by
    unfold U7
    rw [S7_q0, L32_spec, z1]
    simp only [Option.bind_some]
    refine (if_neg Bool.false_ne_true).trans ?_
    exact u7_round ha hb (by omega) (by omega) (by omega) (Int.tdiv_mul_add_tmod (sv a) (sv b))
  have g1 : U7 A ((a, b, (), 2, 1, ()), ([33, 34], ())) = some (.inl ((a, b, (), 2, 2, ()), ([33, 34], ()))) := by
    unfold U7
    rw [S7_q1, L33_spec, z2]
    simp only [Option.bind_some]
    refine (if_neg Bool.false_ne_true).trans ?_
    refine (u7_round ha hb (by omega) (by omega) (by omega) (fl_back (sv a) (sv b))).trans ?_
    obtain ⟨k1, k2⟩ := head45 (flr (sv a) (sv b))
    obtain ⟨k3, k4⟩ := head45 (sv b)
    rw [← (ci_str hb).1] at k3 k4
    rw [str_0]
    by_cases hr : flr (sv a) (sv b) = 0
    · rw [if_neg (by rw [decide_eq_true hr]; decide)]
    · rw [if_pos (by rw [decide_eq_false hr]; decide), if_pos (by omega), if_pos (by omega), k2, k4]
      rw [show decide (flr (sv a) (sv b) < 0) = decide (sv b < 0) from decide_eq_decide.2 (fl_sign hz hr)]
      rw [if_neg (by simp)]
  rw [limL_go g0, limL_go g1]
  exact limL_end (by unfold U7; rw [S7_q2])

theorem L28_spec (x y : Int) : ∃ h : Int, L28 (x, y, ()) = some ((h, IntKind.u64.wrap (x * y), ()), ()) := by
  exact ⟨_, F28_eq x y⟩

theorem law7_of {A : (SV.denL ps10) → Option (rs10).den} (hA : A () = some ((true, ()), ())) (t a b : List UInt8) : F7 L9 A L11 L15 L21 L27 L28 L29 L31 (limL (T7 A)) (limL (U7 A)) (t, a, b, ()) = some ((true, ()), ()) := by
  rw [F7_eq, L9_spec (by simp), hA]
  simp only [Option.bind_some]
  by_cases hsh : shortB [t] = true
  · rw [hsh, if_neg (by decide)]
    by_cases hla : a.length ≤ 40
    · rw [if_neg (by rw [decide_eq_true_eq]; omega)]
      by_cases hlb : b.length ≤ 40
      · rw [if_neg (by rw [decide_eq_true_eq]; omega), L15_spec]
        simp only [Option.bind_some]
        by_cases h : tyErr t = 0
        · obtain ⟨_, hn, _⟩ := tyN_le h
          rw [h, if_neg (by decide), L27_spec (by omega)]
          simp only [Option.bind_some]
          by_cases ha : ciErr a = 0
          · rw [ha, if_neg (by decide), L27_spec (by omega)]
            simp only [Option.bind_some]
            by_cases hb : ciErr b = 0
            · rw [hb, if_neg (by decide), L11_spec]
              simp only [Option.bind_some]
              have hW : W3 t = ((tyN t : Int), tyS t, 0, ()) := if_pos h
              have pa : pTS t a = (wTS t a, 0, ()) := if_pos (by unfold eTS; rw [if_pos h]; exact ha)
              have pb : pTS t b = (wTS t b, 0, ()) := if_pos (by unfold eTS; rw [if_pos h]; exact hb)
              have xa := abs40 ha hla
              have xb := abs40 hb hlb
              have oa := opZ_str (f := (· + ·)) ha hb (show (sv a + sv b).natAbs < 10 ^ 100 by omega)
              have ob := opZ_str (f := (· + ·)) hb ha (show (sv b + sv a).natAbs < 10 ^ 100 by omega)
              have ma := opZ_str (f := (· * ·)) ha hb (mul100 (x := sv a) (y := sv b) (by omega) (by omega))
              have mb := opZ_str (f := (· * ·)) hb ha (mul100 (x := sv b) (y := sv a) (by omega) (by omega))
              have g7 := g7_spec A h ha hb hla hlb
              obtain ⟨hh, h28⟩ := L28_spec (wTS t a) (wTS t b)
              rw [hW, L21_spec, L21_spec, pa, pb]
              simp only [Option.bind_some]
              rw [h28]
              have hend : ∀ (k : Option (denX w7_13)), k = some (Sum.inr ((a, b, ()), ())) → (k.bind fun y =>
                  Sum.elim (fun y => some ((y.1.1, ()), ()))
                    (fun z =>
                      (L29 (z.1.1, z.1.2.1, ())).bind fun y =>
                        (L29 (z.1.2.1, z.1.1, ())).bind fun y_4 =>
                          (L31 (z.1.1, z.1.2.1, ())).bind fun y_5 =>
                            (L31 (z.1.2.1, z.1.1, ())).bind fun y_6 =>
                              if (!y.1.1 == y_4.1.1) = true then (some ((false, ()), ()) : Option rs7.den)
                              else
                                if (!y_5.1.1 == y_6.1.1) = true then some ((false, ()), ())
                                else
                                  if (z.1.2.1 == [(48 : UInt8)]) = true then
                                    some ((true, ()), ())
                                  else
                                    (limL (U7 A)
                                          ((z.1.1, z.1.2.1, (), 2, 0, ()),
                                            [33, 34], ())).bind
                                      fun y =>
                                      Sum.elim (fun y => some ((y.1.1, ()), ()))
                                        (fun z => some ((true, ()), ())) y)
                    y) = some ((true, ()), ()) := by
                rintro k rfl
                simp only [Option.bind_some, Sum.elim_inr]
                rw [L29_spec, L29_spec, L31_spec, L31_spec, oa, ob, ma, mb]
                simp only [Option.bind_some]
                rw [Int.add_comm (sv b) (sv a), Int.mul_comm (sv b) (sv a)]
                simp only [beq_self_eq_true, Bool.not_true, Bool.false_eq_true, if_false, beq_iff_eq]
                by_cases h0 : b = [48]
                · rw [if_pos h0]
                · rw [if_neg h0]
                  refine (congrArg (fun q => Option.bind q _) (u7_spec A ha hb h0 hla hlb)).trans ?_
                  rfl
              by_cases h64 : tyN t < 64
              · refine (if_pos (show decide (((tyN t : Nat) : Int) < 64) = true from decide_eq_true (by omega))).trans ?_
                refine (if_neg (show ¬ ((tyN t : Nat) : Int) < 0 by omega)).trans ?_
                refine (if_neg (by decide)).trans ?_
                refine (if_neg (by decide)).trans ?_
                rw [mask_u hn]
                simp only [Option.bind_some]
                exact hend _ g7
              · refine (if_neg (show ¬ decide (((tyN t : Nat) : Int) < 64) = true by rw [decide_eq_true_eq]; omega)).trans ?_
                refine (if_neg (by decide)).trans ?_
                refine (if_neg (by decide)).trans ?_
                simp only [Option.bind_some]
                rw [show tyN t = 64 by omega] at g7
                exact hend _ g7
            · rw [if_pos (ne_zero_b hb)]
          · rw [if_pos (ne_zero_b ha)]
        · rw [if_pos (ne_zero_b h)]
      · rw [if_pos (decide_eq_true (by omega))]
    · rw [if_pos (decide_eq_true (by omega))]
  · rw [Bool.eq_false_iff.2 hsh]
    rfl

noncomputable def law7 : (SV.denL ps7) → Option (rs7).den := F7 L9 K10 L11 L15 L21 L27 L28 L29 L31 (limL (T7 K10)) (limL (U7 K10))
theorem law7_ok : CallOK Tryz.prog 7 (mkCall ps7 rs7 law7) := call7 okK10 okL11 okL15 okL21 okL27 okL28 okL29 okL30 okL31 okL32 okL33 okL34 okL35 okL36 okL9 (lim_limL _) (lim_limL _)
theorem law7_true (t a b : List UInt8) : law7 (t, a, b, ()) = some ((true, ()), ()) := law7_of K10_val t a b
end Go.Proofs.Rf
/- What the listed variables give: the sorts of literals, the powers of ten. -/
namespace Go.Proofs.Rf
open Go Go.ChangeShapes Go.WideShapes Go.ChangeAt Go.RowKit

abbrev laid01 : List (String × DataW Unit) := Go.Proofs.YtofmlmonkfocnaaGreatDoor.Rows.wideTypesRow.laid

theorem cells105 : Tryz.prog.cellsOf 105 = 3 := by kernel_rfl
theorem cells106 : Tryz.prog.cellsOf 106 = 12 := by kernel_rfl
theorem cells9 : Tryz.prog.cellsOf 9 = 1 := by kernel_rfl
theorem cells102 : Tryz.prog.cellsOf 102 = 1 := by kernel_rfl
theorem cells103 : Tryz.prog.cellsOf 103 = 1 := by kernel_rfl
theorem cells36 : Tryz.prog.cellsOf 36 = 1 := by kernel_rfl
theorem cells204 : Tryz.prog.cellsOf 204 = 20 := by kernel_rfl

theorem list12 {A : Type} {l : List A} (h : l.length = 12) : ∃ a b c d e f g i j k m n, l = [a, b, c, d, e, f, g, i, j, k, m, n] := by
  match l, h with
  | [a, b, c, d, e, f, g, i, j, k, m, n], _ => exact ⟨a, b, c, d, e, f, g, i, j, k, m, n, rfl⟩

theorem list3 {A : Type} {l : List A} (h : l.length = 3) : ∃ a b c, l = [a, b, c] := by
  match l, h with
  | [a, b, c], _ => exact ⟨a, b, c, rfl⟩

theorem lit_str {s : ByteArray} {z : List UInt8} {H : Type} (h : (DataW.lit (.string s.data.toList) : DataW H) = .lit (.string z)) : s = ⟨z.toArray⟩ := by
  injection h with h
  injection h with h
  cases s with
  | mk d =>
    congr 1
    apply Array.ext'
    simpa using h

set_option maxRecDepth 100000 in
/-- One sort of literals. -/
theorem sort_elem {W : World} {fuel : Nat} {c0 c1 c2 : Value} {s : List UInt8} {n : Int} {b : UInt8} {r : List UInt8} {q : List MemPlace} {f0 : FuncId}
    (hone : ((List.range Tryz.prog.funcs.size).filter fun f => (Tryz.prog.funcs[f]?).any (·.name.toUTF8.data.toList == b :: r)) = [f0])
    (h : DataW.trod (funcToken Tryz.prog) Tryz.prog W 0 (fun _ => true) true fuel 105 [c0, c1, c2] = some (.agg [.lit (.string s), .lit (.int .u32 n), .held (b :: r)], q)) :
    c0 = .string ⟨s.toArray⟩ ∧ c1 = .int .u32 n ∧ c2 = .func (.func f0) #[] #[] := by
  obtain ⟨xs, m, _, hx, _, hn, hel⟩ := DataW.trod_struct Tryz.underlying105 h
  obtain ⟨y0, y1, y2, rfl⟩ := list3 (by simpa using hn)
  have e0 := hel 0 _ rfl
  have e1 := hel 1 _ rfl
  have e2 := hel 2 _ rfl
  have e0 : DataW.trod (funcToken Tryz.prog) Tryz.prog W 0 (fun _ => true) true m 9 [c0] = some y0 := by
    have this : DataW.trod (funcToken Tryz.prog) Tryz.prog W 0 (fun _ => true) true m 9 (List.take (Tryz.prog.cellsOf 9) (List.drop 0 [c0, c1, c2])) = some y0 := e0
    rw [cells9] at this
    exact this
  have e1 : DataW.trod (funcToken Tryz.prog) Tryz.prog W 0 (fun _ => true) true m 102 [c1] = some y1 := by
    have this : DataW.trod (funcToken Tryz.prog) Tryz.prog W 0 (fun _ => true) true m 102 (List.take (Tryz.prog.cellsOf 102) (List.drop 1 [c0, c1, c2])) = some y1 := e1
    rw [cells102] at this
    exact this
  have e2 : DataW.trod (funcToken Tryz.prog) Tryz.prog W 0 (fun _ => true) true m 103 [c2] = some y2 := by
    have this : DataW.trod (funcToken Tryz.prog) Tryz.prog W 0 (fun _ => true) true m 103 (List.take (Tryz.prog.cellsOf 103) (List.drop 2 [c0, c1, c2])) = some y2 := e2
    rw [cells103] at this
    exact this
  have hx1 := congrArg Prod.fst hx
  simp only [List.map_cons, List.map_nil] at hx1
  injection hx1 with hx1
  injection hx1 with a0 hx1
  injection hx1 with a1 hx1
  injection hx1 with a2 _
  obtain ⟨y0, z0⟩ := y0
  obtain ⟨y1, z1⟩ := y1
  obtain ⟨y2, z2⟩ := y2
  simp only at a0 a1 a2
  subst a0 a1 a2
  obtain ⟨t, hc0, hd0, _⟩ := DataW.trod_string Tryz.underlying9 e0
  obtain ⟨k, hc1, hd1, _⟩ := DataW.trod_int Tryz.underlying102 e1
  injection hc0 with hc0 _
  injection hc1 with hc1 _
  have hd0 := congrArg Prod.fst hd0
  have hd1 := congrArg Prod.fst hd1
  simp only at hd0 hd1
  injection hd1 with hd1
  injection hd1 with _ hd1
  exact ⟨by rw [hc0, lit_str hd0.symm], by rw [hc1, hd1], Go.func_of_trod (f0 := f0) Tryz.underlying103 hone e2⟩

/-- A variable's cells, as its block holds them. -/
theorem var_block {W : World} {name : String} {g : Nat} {us : List Value} (hg : Tryz.prog.globalNamed name = some g) (hv : W.var? Tryz.prog name = some us.toArray) : ∃ e fz, W.heap[g]? = some (.cells us.toArray e fz) := by
  unfold World.var? at hv
  rw [hg] at hv
  simp only [Option.bind_some] at hv
  split at hv
  · rename_i cs' e' fz hh
    injection hv with hv
    subst hv
    exact ⟨e', fz, hh⟩
  · cases hv

theorem radix_var {W : World} (h : laidMetH Tryz.prog laid01 W) : W.var? Tryz.prog "bowline/wide.radixes" = some (List.toArray [.string ⟨#[48, 120]⟩, .int .u32 16, .func (.func 199) #[] #[], .string ⟨#[48, 111]⟩, .int .u32 8, .func (.func 200) #[] #[], .string ⟨#[48, 98]⟩, .int .u32 2, .func (.func 200) #[] #[], .string ⟨#[]⟩, .int .u32 10, .func (.func 200) #[] #[]]) := by
  obtain ⟨g, t, cs, fuel, p, hg, ht, hv, hd⟩ := h.funcs (n := "bowline/wide.radixes") (d := _)
    (List.mem_cons_of_mem _ (List.mem_cons_of_mem _ (List.mem_cons_of_mem _ (List.mem_cons_of_mem _ (List.mem_cons_of_mem _ (List.mem_cons_of_mem _ (List.mem_cons_self ..)))))))
  obtain rfl := Option.some.inj ((show Tryz.prog.globalNamed "bowline/wide.radixes" = some 0 by kernel_rfl).symm.trans hg)
  obtain rfl := Option.some.inj ((show (Tryz.prog.globals[0]?).map (·.type) = some 106 by kernel_rfl).symm.trans ht)
  have hd' : DataW.trod (funcToken Tryz.prog) Tryz.prog W 0 (fun _ => true) true fuel 106 cs.toList = some (.agg [.agg [.lit (.string [48, 120]), .lit (.int .u32 16), .held [98, 111, 119, 108, 105, 110, 101, 47, 119, 105, 100, 101, 46, 104, 101, 120, 97, 100, 101, 99, 105, 109, 97, 108]], .agg [.lit (.string [48, 111]), .lit (.int .u32 8), .held [98, 111, 119, 108, 105, 110, 101, 47, 119, 105, 100, 101, 46, 100, 101, 99, 105, 109, 97, 108]], .agg [.lit (.string [48, 98]), .lit (.int .u32 2), .held [98, 111, 119, 108, 105, 110, 101, 47, 119, 105, 100, 101, 46, 100, 101, 99, 105, 109, 97, 108]], .agg [.lit (.string []), .lit (.int .u32 10), .held [98, 111, 119, 108, 105, 110, 101, 47, 119, 105, 100, 101, 46, 100, 101, 99, 105, 109, 97, 108]]], p) := hd
  obtain ⟨_, _, _, _, hlen, _, _⟩ := DataW.trod_array Tryz.underlying106 hd'
  rw [cells106] at hlen
  obtain ⟨a0, a1, a2, a3, a4, a5, a6, a7, a8, a9, a10, a11, hcs⟩ := list12 hlen
  have el := fun i hi => Go.Lib.array_elem Tryz.underlying106 hd' i hi
  rw [hcs, cells105] at el
  obtain ⟨f0, d0, q0, hd0, h0⟩ := el 0 (by decide)
  obtain ⟨f1, d1, q1, hd1, h1⟩ := el 1 (by decide)
  obtain ⟨f2, d2, q2, hd2, h2⟩ := el 2 (by decide)
  obtain ⟨f3, d3, q3, hd3, h3⟩ := el 3 (by decide)
  obtain rfl := Option.some.inj hd0
  obtain rfl := Option.some.inj hd1
  obtain rfl := Option.some.inj hd2
  obtain rfl := Option.some.inj hd3
  obtain ⟨r0, r1, r2⟩ := sort_elem (f0 := 199) (by kernel_rfl) h0
  obtain ⟨r3, r4, r5⟩ := sort_elem (f0 := 200) (by kernel_rfl) h1
  obtain ⟨r6, r7, r8⟩ := sort_elem (f0 := 200) (by kernel_rfl) h2
  obtain ⟨r9, r10, r11⟩ := sort_elem (f0 := 200) (by kernel_rfl) h3
  rw [hv]
  congr 1
  apply Array.ext'
  rw [hcs, r0, r1, r2, r3, r4, r5, r6, r7, r8, r9, r10, r11]

theorem pow_var {W : World} (h : laidMetH Tryz.prog laid01 W) : W.var? Tryz.prog "internal/strconv.uint64pow10" = some (Lib.pow10Tab.map fun z => Value.int .u64 z).toArray := by
  have h1 := (laidMetH_iff.1 h).1
  obtain ⟨g, t, cs, fuel, p, hg, ht, hv, hd⟩ := Go.Lib.laidMet.reads h1 (n := "internal/strconv.uint64pow10") (d := _) (List.mem_filter.2 ⟨List.mem_cons_of_mem _ (List.mem_cons_of_mem _ (List.mem_cons_self ..)), rfl⟩)
  obtain rfl := Option.some.inj ((show Tryz.prog.globalNamed "internal/strconv.uint64pow10" = some 1 by kernel_rfl).symm.trans hg)
  obtain rfl := Option.some.inj ((show (Tryz.prog.globals[1]?).map (·.type) = some 204 by kernel_rfl).symm.trans ht)
  have hd' : DataW.trod (fun _ => ()) Tryz.prog W 0 (fun _ => true) false fuel 204 cs.toList = some (Lib.tabData .u64 Lib.pow10Tab, p) := hd
  have hcs := Go.Lib.cells_of_tab Tryz.underlying204 Tryz.underlying36 cells36 cells204 hd'
  rw [hv]
  congr 1
  apply Array.ext'
  rw [hcs]

theorem gl01 {W : World} (h : laidMetH Tryz.prog laid01 W) : GlOK W (fun b => b < W.heap.size) := by
  obtain ⟨e0, fz0, h0⟩ := var_block (g := 0) (by kernel_rfl) (radix_var h)
  have hp := pow_var h
  obtain ⟨e1, fz1, h1⟩ := var_block (g := 1) (by kernel_rfl) hp
  intro g us hgl
  unfold glob at hgl
  split at hgl
  · injection hgl with hgl
    subst hgl
    exact ⟨(Array.getElem?_eq_some_iff.1 h0).1, by simp, e0, fz0, h0⟩
  · injection hgl with hgl
    subst hgl
    exact ⟨(Array.getElem?_eq_some_iff.1 h1).1, by simp, e1, fz1, h1⟩
  · cases hgl
end Go.Proofs.Rf
/- A start in which the listed variables are laid. -/
namespace Go.Proofs.Rf
open Go Go.ChangeShapes Go.WideShapes Go.ChangeAt Go.RowKit

noncomputable def door01 (os : Os) : World := (World.doorLaid Tryz.prog 81 os).layVars Tryz.prog (laid01.filter fun x => x.2.handleName?.isNone)
theorem door01_os (os : Os) : (door01 os).os = os := World.layVars_os _ _ _

theorem door01_fits (os : Os) : (World.doorLaid Tryz.prog 81 os).layFits Tryz.prog (laid01.filter fun x => x.2.handleName?.isNone) [] = true := by kernel_rfl
theorem door01_ifaces (os : Os) : (World.doorLaid Tryz.prog 81 os).layIfaces Tryz.prog (laid01.filter fun x => x.2.handleName?.isNone) (door01 os) = true := by kernel_rfl

theorem door01_plain (os : Os) : laidMet Tryz.prog (laid01.filter fun x => x.2.handleName?.isNone) (door01 os) := by
  have hf := door01_fits os
  have hi := door01_ifaces os
  unfold door01 at hi ⊢
  generalize (laid01.filter fun x => x.2.handleName?.isNone) = laid at *
  have e1 : (laid.filter fun x => (laid.map (·.1)).contains x.1) = laid := List.filter_eq_self.2 fun x hx => List.contains_iff_mem.2 (List.mem_map.2 ⟨x, hx, rfl⟩)
  have e2 : (laid.filter fun x => !(laid.map (·.1)).contains x.1) = [] := List.filter_eq_nil_iff.2 fun x hx => by rw [List.contains_iff_mem.2 (List.mem_map.2 ⟨x, hx, rfl⟩)]; simp
  exact laidMet_layVars (w0 := World.doorLaid Tryz.prog 81 os) (laid.map (·.1)) [] (by rw [e1]) (by rw [e1]; exact hf) (by rw [e1]; exact hi) (by rw [e2]; exact LaidIn.none)

theorem door01_met (os : Os) (args : Array Value) : laidMetH Tryz.prog laid01 ((door01 os).forCall (fun _ _ => 0) ⟨#[], args, []⟩).memory :=
  laidMetH_of_parts3 (fuel := 8) ((door01_plain os).of_heap (by simp [World.memory, World.forCall, Input.heap])) (by kernel_rfl) (by kernel_rfl)

theorem door01_shaped (os : Os) (args : Array Value) : ((door01 os).forCall (fun _ _ => 0) ⟨#[], args, []⟩).Shaped Tryz.prog := World.shaped_of_RefB (by kernel_rfl) (by kernel_rfl)
end Go.Proofs.Rf
