/- Texts put together: Q1, P5, L40, P6, P7, P8, K40, P0, P9, Q2, Q3, Q4, Q5, Q6, Q7, R1, R2, R3, R4, R5, R6, R7, R8, R9, R10, R11, R12, S1, S2, Gg, Gh, Z0. -/
import Derived.Test.YtgkgjgcoalmldaaM3
import Derived.Laws.RangeAny
import Derived.Laws.RangeString
import Derived.Below
import Derived.WalkKit
import Derived.ProofKit
import Derived.OpenShut
import Derived.ChangeOld
import Derived.ChangeArms
import Derived.Carry
/- Bits of numbers; what math/bits' functions come to. -/
namespace Go.Proofs.Rf
open Go Go.RowKit

theorem ofInt_toNat (n x : Nat) (h : x < 2 ^ n) : (BitVec.ofInt n (x : Int)).toNat = x := by
  rw [BitVec.ofInt_natCast, BitVec.toNat_ofNat, Nat.mod_eq_of_lt h]

theorem and32 {x y : Nat} (hx : x < 4294967296) (hy : y < 4294967296) : bitop .and .u32 (x : Int) (y : Int) = ((x &&& y : Nat) : Int) := by
  show IntKind.u32.wrap ((((BitVec.ofInt 32 (x : Int)) &&& (BitVec.ofInt 32 (y : Int))).toNat : Nat) : Int) = _
  rw [BitVec.toNat_and, ofInt_toNat 32 x hx, ofInt_toNat 32 y hy]
  have := @Nat.and_le_left x y
  exact w32 (by omega) (by omega)

theorem or32 {x y : Nat} (hx : x < 4294967296) (hy : y < 4294967296) : bitop .or .u32 (x : Int) (y : Int) = ((x ||| y : Nat) : Int) := by
  show IntKind.u32.wrap ((((BitVec.ofInt 32 (x : Int)) ||| (BitVec.ofInt 32 (y : Int))).toNat : Nat) : Int) = _
  rw [BitVec.toNat_or, ofInt_toNat 32 x hx, ofInt_toNat 32 y hy]
  have := @Nat.or_lt_two_pow x y 32 hx hy
  exact w32 (by omega) (by omega)

theorem andNot32 {x y : Nat} (hx : x < 4294967296) (hy : y < 4294967296) : bitop .andNot .u32 (x : Int) (y : Int) = ((x - (x &&& y) : Nat) : Int) := by
  show IntKind.u32.wrap ((((BitVec.ofInt 32 (x : Int)) &&& ~~~ (BitVec.ofInt 32 (y : Int))).toNat : Nat) : Int) = _
  have e : ((BitVec.ofInt 32 (x : Int)) &&& ~~~ (BitVec.ofInt 32 (y : Int))).toNat = x - (x &&& y) := by
    have h1 : (BitVec.ofInt 32 (x : Int)).toNat = x := ofInt_toNat 32 x hx
    have h2 : (BitVec.ofInt 32 (y : Int)).toNat = y := ofInt_toNat 32 y hy
    generalize BitVec.ofInt 32 (x : Int) = a at *
    generalize BitVec.ofInt 32 (y : Int) = b at *
    subst h1
    subst h2
    rw [← BitVec.toNat_and]
    have h3 : a = (a &&& b) + (a &&& ~~~ b) := by
      have h4 : (a &&& b) &&& (a &&& ~~~ b) = 0#32 := by
        ext i
        simp
        grind
      rw [BitVec.add_eq_or_of_and_eq_zero _ _ h4]
      ext i
      simp
      grind
    have h5 : (a &&& b).toNat + (a &&& ~~~ b).toNat < 2 ^ 32 := by
      have h4 : (a &&& b) &&& (a &&& ~~~ b) = 0#32 := by
        ext i
        simp
        grind
      have := BitVec.toNat_add_of_and_eq_zero h4
      rw [← this]
      exact BitVec.isLt _
    have h6 : a.toNat = (a &&& b).toNat + (a &&& ~~~ b).toNat := by
      conv => lhs; rw [h3]
      rw [BitVec.toNat_add, Nat.mod_eq_of_lt h5]
    omega
  rw [e]
  exact w32 (by omega) (by omega)

theorem or64 {x y : Nat} (hx : x < 18446744073709551616) (hy : y < 18446744073709551616) : bitop .or .u64 (x : Int) (y : Int) = ((x ||| y : Nat) : Int) := by
  show IntKind.u64.wrap ((((BitVec.ofInt 64 (x : Int)) ||| (BitVec.ofInt 64 (y : Int))).toNat : Nat) : Int) = _
  rw [BitVec.toNat_or, ofInt_toNat 64 x hx, ofInt_toNat 64 y hy]
  have := @Nat.or_lt_two_pow x y 64 hx hy
  exact w64 (by omega) (by omega)

/-- A high part and a low part. -/
theorem or_parts {h l k : Nat} (hl : l < 2 ^ k) : h * 2 ^ k ||| l = h * 2 ^ k + l := by
  rw [Nat.mul_comm, Nat.two_pow_add_eq_or_of_lt hl]

theorem fdiv_pow (x : Nat) (k : Nat) : Int.fdiv (x : Int) (2 ^ k) = ((x / 2 ^ k : Nat) : Int) := by
  have h : (2 : Int) ^ k = ((2 ^ k : Nat) : Int) := by simp
  rw [h, Int.fdiv_eq_ediv_of_nonneg _ (Int.natCast_nonneg _)]
  simp

/-- The number of bits. -/
def bl (x : Nat) : Nat := if x = 0 then 0 else Nat.log2 x + 1

theorem bl_lt (x : Nat) : x < 2 ^ bl x := by
  unfold bl
  split
  · omega
  · exact Nat.lt_log2_self
theorem bl_le {x : Nat} (h : x ≠ 0) : 2 ^ (bl x - 1) ≤ x := by
  unfold bl
  rw [if_neg h]
  exact Nat.log2_self_le h
theorem bl_pos {x : Nat} (h : x ≠ 0) : 0 < bl x := by
  unfold bl
  rw [if_neg h]
  omega
/-- What the number of bits is known by. -/
theorem bl_eq {x k : Nat} (h0 : 2 ^ k ≤ x) (h1 : x < 2 ^ (k + 1)) : bl x = k + 1 := by
  have hp : 0 < 2 ^ k := Nat.two_pow_pos k
  have hx : x ≠ 0 := by omega
  have a := bl_lt x
  have b := bl_le hx
  have c := bl_pos hx
  have p1 : k < bl x := (Nat.pow_lt_pow_iff_right (by decide : 1 < 2)).1 (Nat.lt_of_le_of_lt h0 a)
  have p2 : bl x - 1 < k + 1 := (Nat.pow_lt_pow_iff_right (by decide : 1 < 2)).1 (Nat.lt_of_le_of_lt b h1)
  omega
theorem bl_le_of {x k : Nat} (h : x < 2 ^ k) : bl x ≤ k := by
  by_cases hx : x = 0
  · subst hx; simp [bl]
  · have b := bl_le hx
    have := (Nat.pow_lt_pow_iff_right (by decide : 1 < 2)).1 (Nat.lt_of_le_of_lt b h)
    omega
theorem bl_shift {x k : Nat} (h : x / 2 ^ k ≠ 0) : bl x = bl (x / 2 ^ k) + k := by
  have a := bl_lt (x / 2 ^ k)
  have b := bl_le h
  have c := bl_pos h
  obtain ⟨m, hm⟩ : ∃ m, bl (x / 2 ^ k) = m + 1 := ⟨bl (x / 2 ^ k) - 1, by omega⟩
  rw [hm] at a b
  simp only [Nat.add_sub_cancel] at b
  have hp : 0 < 2 ^ k := Nat.two_pow_pos k
  rw [hm, show m + 1 + k = (m + k) + 1 by omega]
  refine bl_eq ?_ ?_
  · rw [Nat.pow_add]
    exact (Nat.le_div_iff_mul_le hp).1 b
  · rw [show m + k + 1 = m + 1 + k by omega, Nat.pow_add]
    exact (Nat.div_lt_iff_lt_mul hp).1 a

theorem len8_eq : ∀ i : Fin 256, (len8.getD i.val 0).toNat = bl i.val := by decide +kernel

theorem F113_spec {x : Nat} (h : x < 4294967296) : F113 ((x : Int), ()) = some (((bl x : Int), ()), ()) := by
  rw [F113_eq]
  have t8 : ∀ i : Nat, i < 256 → (len8.getD i 0).toNat = bl i := fun i hi => len8_eq ⟨i, hi⟩
  have hb8 : ∀ i : Nat, i < 256 → bl i ≤ 8 := fun i hi => bl_le_of (k := 8) (by simpa using hi)
  have hdd : (x / 2 ^ 16) / 2 ^ 8 = x / 2 ^ 24 := by rw [Nat.div_div_eq_div_mul]
  simp only [fdiv_pow, decide_eq_true_eq]
  by_cases h1 : (x : Int) ≥ 65536
  · rw [if_pos h1]
    by_cases h2 : ((x / 2 ^ 16 : Nat) : Int) ≥ 256
    · rw [if_pos h2, hdd]
      have h3 : x / 2 ^ 24 < 256 := by omega
      have h4 : x / 2 ^ 24 ≠ 0 := by omega
      have h5 := bl_shift h4
      have h6 := hb8 _ h3
      rw [w8 (by omega) (by omega), if_pos (by omega), if_pos (by omega), Int.toNat_natCast, t8 _ h3, wi (n := ((bl (x / 2 ^ 24) : Nat) : Int)) (by omega) (by omega), wi (n := 16 + 8) (by omega) (by omega), wi (by omega) (by omega)]
      rw [h5]
      simp only [Int.natCast_add]
      rw [Int.add_comm]
      rfl
    · rw [if_neg h2]
      have h3 : x / 2 ^ 16 < 256 := by omega
      have h4 : x / 2 ^ 16 ≠ 0 := by omega
      have h5 := bl_shift h4
      have h6 := hb8 _ h3
      rw [w8 (by omega) (by omega), if_pos (by omega), if_pos (by omega), Int.toNat_natCast, t8 _ h3, wi (n := ((bl (x / 2 ^ 16) : Nat) : Int)) (by omega) (by omega), wi (by omega) (by omega)]
      rw [h5]
      simp only [Int.natCast_add]
      rw [Int.add_comm]
      rfl
  · rw [if_neg h1]
    by_cases h2 : (x : Int) ≥ 256
    · rw [if_pos h2]
      have h3 : x / 2 ^ 8 < 256 := by omega
      have h4 : x / 2 ^ 8 ≠ 0 := by omega
      have h5 := bl_shift h4
      have h6 := hb8 _ h3
      rw [w8 (by omega) (by omega), if_pos (by omega), if_pos (by omega), Int.toNat_natCast, t8 _ h3, wi (n := ((bl (x / 2 ^ 8) : Nat) : Int)) (by omega) (by omega), wi (n := 0 + 8) (by omega) (by omega), wi (by omega) (by omega)]
      rw [h5]
      simp only [Int.natCast_add]
      rw [Int.add_comm]
      rfl
    · rw [if_neg h2]
      have h3 : x < 256 := by omega
      have h6 := hb8 _ h3
      rw [w8 (by omega) (by omega), if_pos (by omega), if_pos (by omega), Int.toNat_natCast, t8 _ h3, wi (n := ((bl (x) : Nat) : Int)) (by omega) (by omega), wi (by omega) (by omega)]
      simp

end Go.Proofs.Rf
/- Numerals: both texts come to the same number and error. -/
namespace Go.Proofs.Rf
open Go

/-- A digit's value. -/
def dg (c : Int) : Int := if 48 ≤ c ∧ c ≤ 57 then c - 48 else if 97 ≤ c ∧ c ≤ 122 then c - 87 else 99

/-- All are digits. -/
def allD (base : Int) (d : List UInt8) : Bool := d.all fun c => decide (dg (c.toNat : Int) < base)

/-! ### The number -/
/-- Digit by digit; none where it becomes too large. -/
def nums (base : Int) : List UInt8 → Nat → Option Nat
  | [], n => some n
  | c :: r, n => if 200 < (lim ((n : Int) * base + dg (c.toNat : Int)).toNat).length then none else nums base r ((n : Int) * base + dg (c.toNat : Int)).toNat

theorem F96_one {x : Int} (h0 : 0 ≤ x) (h1 : x < 4294967296) : F96 (limL S96_2) ([x], ()) = some ((lim x.toNat, ()), ()) := by
  have := F96_spec (l := [x]) (Wf.cons h0 h1 Wf.nil) (by simp)
  simpa [val] using this

end Go.Proofs.Rf
/- The functions, filled in. -/
namespace Go.Proofs.Rf
open Go Go.RowKit
noncomputable def Lg50_2 : sh50_2.den → Option (denX w50_2) := limL (S50_2)
noncomputable def L50 : (SV.denL ps50) → Option (rs50).den := F50 Lg50_2
theorem okL50 : CallOK Try.prog 50 (mkCall ps50 rs50 L50) := call50 (lim_limL _)
noncomputable def L51 : (SV.denL ps51) → Option (rs51).den := F51 L50
theorem okL51 : CallOK Try.prog 51 (mkCall ps51 rs51 L51) := call51 okL50
noncomputable def Lg48_4 : sh48_4.den → Option (denX w48_4) := limL (S48_4)
noncomputable def L48 : (SV.denL ps48) → Option (rs48).den := F48 L50 Lg48_4
theorem okL48 : CallOK Try.prog 48 (mkCall ps48 rs48 L48) := call48 okL50 (lim_limL _)
noncomputable def Lg49_7 : sh49_7.den → Option (denX w49_7) := limL (S49_7)
noncomputable def Lg49_3 : sh49_3.den → Option (denX w49_3) := limL (S49_3 Lg49_7)
noncomputable def L49 : (SV.denL ps49) → Option (rs49).den := F49 L50 Lg49_3
theorem okL49 : CallOK Try.prog 49 (mkCall ps49 rs49 L49) := call49 okL50 (lim_limL _) (lim_limL _)
noncomputable def Lg52_2 : sh52_2.den → Option (denX w52_2) := limL (S52_2)
noncomputable def L52 : (SV.denL ps52) → Option (rs52).den := F52 Lg52_2
theorem okL52 : CallOK Try.prog 52 (mkCall ps52 rs52 L52) := call52 (lim_limL _)
noncomputable def L53 : (SV.denL ps53) → Option (rs53).den := F53
theorem okL53 : CallOK Try.prog 53 (mkCall ps53 rs53 L53) := call53
abbrev L97 : (SV.denL ps97) → Option (rs97).den := C97
theorem okL97 : CallOK Try.prog 97 (mkCall ps97 rs97 L97) := callC97
noncomputable def L61 : (SV.denL ps61) → Option (rs61).den := F61 L97
theorem okL61 : CallOK Try.prog 61 (mkCall ps61 rs61 L61) := call61 okL97
noncomputable def Lg96_2 : sh96_2.den → Option (denX w96_2) := limL (S96_2)
noncomputable def L96 : (SV.denL ps96) → Option (rs96).den := F96 Lg96_2
theorem okL96 : CallOK Try.prog 96 (mkCall ps96 rs96 L96) := call96 (lim_limL _)
noncomputable def L58 : (SV.denL ps58) → Option (rs58).den := F58 L96
theorem okL58 : CallOK Try.prog 58 (mkCall ps58 rs58 L58) := call58 okL96
noncomputable def L71 : (SV.denL ps71) → Option (rs71).den := F71
theorem okL71 : CallOK Try.prog 71 (mkCall ps71 rs71 L71) := call71
noncomputable def Lg59_4 : sh59_4.den → Option (denX w59_4) := limL (S59_4 L71)
noncomputable def L59 : (SV.denL ps59) → Option (rs59).den := F59 L96 Lg59_4
theorem okL59 : CallOK Try.prog 59 (mkCall ps59 rs59 L59) := call59 okL71 okL96 (lim_limL _)
noncomputable def Lg62_6 : sh62_6.den → Option (denX w62_6) := limL (S62_6)
noncomputable def L62 : (SV.denL ps62) → Option (rs62).den := F62 Lg62_6
theorem okL62 : CallOK Try.prog 62 (mkCall ps62 rs62 L62) := call62 (lim_limL _)
noncomputable def L12 : (SV.denL ps12) → Option (rs12).den := F12 L62
theorem okL12 : CallOK Try.prog 12 (mkCall ps12 rs12 L12) := call12 okL62
noncomputable def L13 : (SV.denL ps13) → Option (rs13).den := F13
theorem okL13 : CallOK Try.prog 13 (mkCall ps13 rs13 L13) := call13
noncomputable def Lg14_2 : sh14_2.den → Option (denX w14_2) := limL (S14_2)
noncomputable def L14 : (SV.denL ps14) → Option (rs14).den := F14 Lg14_2
theorem okL14 : CallOK Try.prog 14 (mkCall ps14 rs14 L14) := call14 (lim_limL _)
noncomputable def L72 : (SV.denL ps72) → Option (rs72).den := F72
theorem okL72 : CallOK Try.prog 72 (mkCall ps72 rs72 L72) := call72
noncomputable def L23 : (SV.denL ps23) → Option (rs23).den := F23 L72
theorem okL23 : CallOK Try.prog 23 (mkCall ps23 rs23 L23) := call23 okL72
noncomputable def Lg50B_2 : sh50B_2.den → Option (denX w50B_2) := limL (S50B_2)
noncomputable def L50B : (psh50B.den) → Option (rs50B).den := F50B Lg50B_2
theorem okL50B : CallOK Try.prog 50 (mkCallB psh50B rs50B m50B 1 L50B) := call50B (lim_limL _)
noncomputable def L22 : (SV.denL ps22) → Option (rs22).den := F22 L52 L53
theorem okL22 : CallOK Try.prog 22 (mkCall ps22 rs22 L22) := call22 okL52 okL53
noncomputable def L63 : (SV.denL ps63) → Option (rs63).den := F63
theorem okL63 : CallOK Try.prog 63 (mkCall ps63 rs63 L63) := call63
noncomputable def L108 : (SV.denL ps108) → Option (rs108).den := F108
theorem okL108 : CallOK Try.prog 108 (mkCall ps108 rs108 L108) := call108
noncomputable def LD115 : Dt115 := colLim (B115) (Y115)
theorem okLI115 : IterOK Try.prog 115 encs115 (cap115 LD115) := it115 (coll_colLim _ _)
noncomputable def Lg99_4 : List El115 → sh99_4.den → Option (sh99_4.den ⊕ denX w99_4) := foldR (S99_4)
noncomputable def L99 : (SV.denL ps99) → Option (rs99).den := F99 L96 L108 LD115 Lg99_4
theorem okL99 : CallOK Try.prog 99 (mkCall ps99 rs99 L99) := call99 okLI115 okL108 okL96 (rfl)
noncomputable def L66 : (SV.denL ps66) → Option (rs66).den := F66
theorem okL66 : CallOK Try.prog 66 (mkCall ps66 rs66 L66) := call66
noncomputable def L17 : (SV.denL ps17) → Option (rs17).den := F17 L66
theorem okL17 : CallOK Try.prog 17 (mkCall ps17 rs17 L17) := call17 okL66
noncomputable def Lg67_2 : sh67_2.den → Option (denX w67_2) := limL (S67_2)
noncomputable def L67 : (SV.denL ps67) → Option (rs67).den := F67 Lg67_2
theorem okL67 : CallOK Try.prog 67 (mkCall ps67 rs67 L67) := call67 (lim_limL _)
noncomputable def L113 : (SV.denL ps113) → Option (rs113).den := F113
theorem okL113 : CallOK Try.prog 113 (mkCall ps113 rs113 L113) := call113
noncomputable def L100 : (SV.denL ps100) → Option (rs100).den := F100 L113
theorem okL100 : CallOK Try.prog 100 (mkCall ps100 rs100 L100) := call100 okL113
noncomputable def L69 : (SV.denL ps69) → Option (rs69).den := F69 L100
theorem okL69 : CallOK Try.prog 69 (mkCall ps69 rs69 L69) := call69 okL100
noncomputable def L73 : (SV.denL ps73) → Option (rs73).den := F73
theorem okL73 : CallOK Try.prog 73 (mkCall ps73 rs73 L73) := call73
noncomputable def Lg102_4 : sh102_4.den → Option (denX w102_4) := limL (S102_4)
noncomputable def L102 : (SV.denL ps102) → Option (rs102).den := F102 L50 Lg102_4
theorem okL102 : CallOK Try.prog 102 (mkCall ps102 rs102 L102) := call102 okL50 (lim_limL _)
noncomputable def Lg111_3 : sh111_3.den → Option (denX w111_3) := limL (S111_3)
noncomputable def L111 : (SV.denL ps111) → Option (rs111).den := F111 L50 Lg111_3
theorem okL111 : CallOK Try.prog 111 (mkCall ps111 rs111 L111) := call111 okL50 (lim_limL _)
noncomputable def Lg91_7 : sh91_7.den → Option (denX w91_7) := limL (S91_7 L62 L102 L111)
noncomputable def Lg91_4 : sh91_4.den → Option (denX w91_4) := limL (S91_4 Lg91_7)
noncomputable def L91 : (SV.denL ps91) → Option (rs91).den := F91 L50 Lg91_4
theorem okL91 : CallOK Try.prog 91 (mkCall ps91 rs91 L91) := call91 okL102 okL111 okL50 okL62 (lim_limL _) (lim_limL _)
noncomputable def L74 : (SV.denL ps74) → Option (rs74).den := F74 L48 L51 L91 L102
theorem okL74 : CallOK Try.prog 74 (mkCall ps74 rs74 L74) := call74 okL102 okL48 okL51 okL91
noncomputable def L24 : (SV.denL ps24) → Option (rs24).den := F24 L23 L49 L51 L73 L74
theorem okL24 : CallOK Try.prog 24 (mkCall ps24 rs24 L24) := call24 okL23 okL49 okL51 okL73 okL74
noncomputable def L75 : (SV.denL ps75) → Option (rs75).den := F75
theorem okL75 : CallOK Try.prog 75 (mkCall ps75 rs75 L75) := call75
noncomputable def Lg76_6 : sh76_6.den → Option (denX w76_6) := limL (S76_6)
noncomputable def L76 : (SV.denL ps76) → Option (rs76).den := F76 L96 Lg76_6
theorem okL76 : CallOK Try.prog 76 (mkCall ps76 rs76 L76) := call76 okL96 (lim_limL _)
noncomputable def L104 : (SV.denL ps104) → Option (rs104).den := F104
theorem okL104 : CallOK Try.prog 104 (mkCall ps104 rs104 L104) := call104
noncomputable def Lg114_2 : sh114_2.den → Option (denX w114_2) := limL (S114_2 L104)
noncomputable def L114 : (SV.denL ps114) → Option (rs114).den := F114 Lg114_2
theorem okL114 : CallOK Try.prog 114 (mkCall ps114 rs114 L114) := call114 okL104 (lim_limL _)
noncomputable def L103 : (SV.denL ps103) → Option (rs103).den := F103 L114
theorem okL103 : CallOK Try.prog 103 (mkCall ps103 rs103 L103) := call103 okL114
noncomputable def Lg77_6 : sh77_6.den → Option (denX w77_6) := limL (S77_6 L71)
noncomputable def L77 : (SV.denL ps77) → Option (rs77).den := F77 L96 L103 Lg77_6
theorem okL77 : CallOK Try.prog 77 (mkCall ps77 rs77 L77) := call77 okL103 okL71 okL96 (lim_limL _)
noncomputable def L25 : (SV.denL ps25) → Option (rs25).den := F25 L22 L52 L53 L58 L59 L61 L63 L75 L76 L77
theorem okL25 : CallOK Try.prog 25 (mkCall ps25 rs25 L25) := call25 okL22 okL52 okL53 okL58 okL59 okL61 okL63 okL75 okL76 okL77
noncomputable def Lg49B_7 : sh49B_7.den → Option (denX w49B_7) := limL (S49B_7)
noncomputable def Lg49B_3 : sh49B_3.den → Option (denX w49B_3) := limL (S49B_3 Lg49B_7)
noncomputable def L49B : (SV.denL ps49B) → Option (rs49B).den := F49B L50B Lg49B_3
theorem okL49B : CallOK Try.prog 49 (mkCall ps49B rs49B L49B) := call49B okL50B (lim_limL _) (lim_limL _)
noncomputable def Lg26_8 : sh26_8.den → Option (denX w26_8) := limL (S26_8 L49B L50B L62)
noncomputable def L26 : (SV.denL ps26) → Option (rs26).den := F26 L23 L51 L67 Lg26_8
theorem okL26 : CallOK Try.prog 26 (mkCall ps26 rs26 L26) := call26 okL23 okL49B okL50B okL51 okL62 okL67 (lim_limL _)
noncomputable def Lg79_4 : List El115 → sh79_4.den → Option (sh79_4.den ⊕ denX w79_4) := foldR (S79_4)
noncomputable def L79 : (SV.denL ps79) → Option (rs79).den := F79 L108 LD115 Lg79_4
theorem okL79 : CallOK Try.prog 79 (mkCall ps79 rs79 L79) := call79 okLI115 okL108 (rfl)
abbrev L105 : (SV.denL ps105) → Option (rs105).den := C105
theorem okL105 : CallOK Try.prog 105 (mkCall ps105 rs105 L105) := callC105
noncomputable def L106 : (SV.denL ps106) → Option (rs106).den := F106
theorem okL106 : CallOK Try.prog 106 (mkCall ps106 rs106 L106) := call106
noncomputable def L107 : (SV.denL ps107) → Option (rs107).den := F107
theorem okL107 : CallOK Try.prog 107 (mkCall ps107 rs107 L107) := call107
noncomputable def Lg78_9 : sh78_9.den → Option (denX w78_9) := limL (S78_9)
noncomputable def Lg78_18 : sh78_18.den → Option (denX w78_18) := limL (S78_18)
noncomputable def Lg78_24 : sh78_24.den → Option (denX w78_24) := limL (S78_24 L106)
noncomputable def Lg78_35 : sh78_35.den → Option (denX w78_35) := limL (S78_35 L107)
noncomputable def Lg78_14 : sh78_14.den → Option (denX w78_14) := limL (S78_14 L106 Lg78_18 Lg78_24 Lg78_35)
noncomputable def L78 : (SV.denL ps78) → Option (rs78).den := F78 L58 L76 L77 L79 L96 L99 L100 L105 Lg78_9 Lg78_14
theorem okL78 : CallOK Try.prog 78 (mkCall ps78 rs78 L78) := call78 okL100 okL105 okL106 okL107 okL58 okL76 okL77 okL79 okL96 okL99 (lim_limL _) (lim_limL _) (lim_limL _) (lim_limL _) (lim_limL _)
noncomputable def Lg27_8 : sh27_8.den → Option (denX w27_8) := limL (S27_8 L59 L61 L77 L78 L79)
noncomputable def L27 : (SV.denL ps27) → Option (rs27).den := F27 L22 L52 L53 L58 L63 L69 L76 Lg27_8
theorem okL27 : CallOK Try.prog 27 (mkCall ps27 rs27 L27) := call27 okL22 okL52 okL53 okL58 okL59 okL61 okL63 okL69 okL76 okL77 okL78 okL79 (lim_limL _)
end Go.Proofs.Rf
/- Numerals: the loops that read the digits. -/
namespace Go.Proofs.Rf
open Go

theorem L50_spec {l : List Int} (hw : Wf l) (hl : l.length < 4611686018427387904) : L50 (l, ()) = some ((lim (val l).toNat, ()), ()) := F50_spec hw hl
theorem L96_spec {l : List Int} (hw : Wf l) (hl : l.length < 4611686018427387904) : L96 (l, ()) = some ((lim (val l).toNat, ()), ()) := F96_spec hw hl
theorem L48_spec {a b : List Int} (wa : Wf a) (wb : Wf b) (sa : Sm a) (sb : Sm b) : L48 (a, b, ()) = some ((lim (val a + val b).toNat, ()), ()) := F48_spec wa wb sa sb
theorem L49_spec {a b : List Int} (wa : Wf a) (wb : Wf b) (sa : Sm a) (sb : Sm b) : L49 (a, b, ()) = some ((lim (val a * val b).toNat, ()), ()) := F49_spec wa wb sa sb
theorem L59_spec {a b : List Int} (wa : Wf a) (wb : Wf b) (sa : Sm a) (sb : Sm b) : L59 (a, b, ()) = some ((lim (val a + val b).toNat, ()), ()) := F59_spec wa wb sa sb
theorem L58_spec {x : Int} (h0 : 0 ≤ x) (h1 : x < 4294967296) : L58 (x, ()) = some ((lim x.toNat, ()), ()) := by
  have := F96_one h0 h1
  show F58 L96 (x, ()) = _
  rw [F58_eq, show L96 ([x], ()) = _ from this]
  rfl

end Go.Proofs.Rf
/- Numerals: Parse of both texts comes to the same. -/
namespace Go.Proofs.Rf
open Go
/-- What is told of the digits. -/
def fin (neg : Bool) (base : Int) (d : List UInt8) : (Bool × List Int) × Int × Unit :=
  if allD base d = true then (match nums base d 0 with
    | some n => ((neg && decide (0 < (lim n).length), lim n), 0, ())
    | none => ((false, []), 4, ())) else ((false, []), 19, ())

end Go.Proofs.Rf
/- Numerals: the program's Parse; the law. -/
namespace Go.Proofs.Rf
open Go

/-- The first error. -/
theorem L52_spec {l : List Int} (hl : l.length < 1000000000) : L52 (l, ()) = some ((match l.find? (fun e => !(e == 0)) with
    | some e => e
    | none => 0, ()), ()) := by
  obtain ⟨z, h1, rfl⟩ := limL_ind (f := S52_2) (fun x => l.length - x.1.2.2.1.toNat)
    (fun x => ∃ i : Nat, x = ((l, (l.length : Int), (i : Int), ()), ()) ∧ i ≤ l.length ∧ l.find? (fun e => !(e == 0)) = (l.drop i).find? (fun e => !(e == 0)))
    (fun z => z = (match l.find? (fun e => !(e == 0)) with
      | some e => .inl ((e, ()), ())
      | none => .inr ((), ()))) (by
    rintro x ⟨i, rfl, hi, hall⟩
    by_cases hlt : i < l.length
    · have h3 : l.drop i = l.getD i 0 :: l.drop (i + 1) := by
        rw [List.drop_eq_getElem_cons hlt, List.getD_eq_getElem?_getD, List.getElem?_eq_getElem hlt]
        rfl
      have e := S52_2_eq l (l.length : Int) (i : Int)
      simp only [Int.toNat_natCast, decide_eq_true_eq, Int.ofNat_lt, hlt, if_true, show (0 : Int) ≤ (i : Int) by omega] at e
      have e7 : IntKind.i64.wrap ((i : Int) + 1) = ((i + 1 : Nat) : Int) := by rw [wi (by omega) (by omega)]; omega
      rw [e7] at e
      rw [h3, List.find?_cons] at hall
      cases hz : (!(l.getD i 0 == 0)) with
      | true =>
        rw [hz] at hall e
        right
        refine ⟨_, by rw [e]; rfl, ?_⟩
        rw [hall]
      | false =>
        rw [hz] at hall e
        left
        exact ⟨_, by rw [e]; rfl, ⟨i + 1, rfl, by omega, hall⟩, by simp only [Int.toNat_natCast]; omega⟩
    · right
      refine ⟨_, ?_, rfl⟩
      rw [hall, List.drop_of_length_le (by omega)]
      rw [S52_2_eq]
      simp only [decide_eq_true_eq, Int.ofNat_lt, hlt, if_false]
      rfl) ((l, (l.length : Int), ((0 : Nat) : Int), ()), ()) ⟨0, rfl, by omega, by simp⟩
  show F52 Lg52_2 (l, ()) = _
  rw [F52_eq, show Lg52_2 ((l, (l.length : Int), 0, ()), ()) = _ from h1]
  cases l.find? (fun e => !(e == 0)) <;> rfl

theorem L53_spec (b : Bool) (e : Int) : L53 (b, e, ()) = some ((if b = true then e else 0, ()), ()) := by
  show F53 (b, e, ()) = _
  rw [F53_eq]
  cases b <;> rfl

end Go.Proofs.Rf
/- The functions, filled in. -/
namespace Go.Proofs.Rf
open Go Go.RowKit
noncomputable def Kg52_2 : sh52_2.den → Option (denX w52_2) := iterL (S52_2) 100
noncomputable def K52 : (SV.denL ps52) → Option (rs52).den := F52 Kg52_2
theorem okK52 : CallOK Try.prog 52 (mkCall ps52 rs52 K52) := call52 (lim_iterL _ _)
noncomputable def K53 : (SV.denL ps53) → Option (rs53).den := F53
theorem okK53 : CallOK Try.prog 53 (mkCall ps53 rs53 K53) := call53
noncomputable def K54 : (SV.denL ps54) → Option (rs54).den := F54
theorem okK54 : CallOK Try.prog 54 (mkCall ps54 rs54 K54) := call54
noncomputable def K112 : (SV.denL ps112) → Option (rs112).den := F112
theorem okK112 : CallOK Try.prog 112 (mkCall ps112 rs112 K112) := call112
noncomputable def K95 : (SV.denL ps95) → Option (rs95).den := F95 K112
theorem okK95 : CallOK Try.prog 95 (mkCall ps95 rs95 K95) := call95 okK112
noncomputable def K56 : (SV.denL ps56) → Option (rs56).den := F56 K95
theorem okK56 : CallOK Try.prog 56 (mkCall ps56 rs56 K56) := call56 okK95
noncomputable def K60 : (SV.denL ps60) → Option (rs60).den := F60
theorem okK60 : CallOK Try.prog 60 (mkCall ps60 rs60 K60) := call60
noncomputable def Kg55_5 : sh55_5.den → Option (denX w55_5) := iterL (S55_5 K60) 100
noncomputable def K55 : (SV.denL ps55) → Option (rs55).den := F55 K56 Kg55_5
theorem okK55 : CallOK Try.prog 55 (mkCall ps55 rs55 K55) := call55 okK56 okK60 (lim_iterL _ _)
abbrev K97 : (SV.denL ps97) → Option (rs97).den := C97
theorem okK97 : CallOK Try.prog 97 (mkCall ps97 rs97 K97) := callC97
noncomputable def K61 : (SV.denL ps61) → Option (rs61).den := F61 K97
theorem okK61 : CallOK Try.prog 61 (mkCall ps61 rs61 K61) := call61 okK97
noncomputable def Kg96_2 : sh96_2.den → Option (denX w96_2) := iterL (S96_2) 100
noncomputable def K96 : (SV.denL ps96) → Option (rs96).den := F96 Kg96_2
theorem okK96 : CallOK Try.prog 96 (mkCall ps96 rs96 K96) := call96 (lim_iterL _ _)
noncomputable def Kg57_7 : sh57_7.den → Option (denX w57_7) := iterL (S57_7) 100
noncomputable def Kg57_3 : sh57_3.den → Option (denX w57_3) := iterL (S57_3 Kg57_7) 100
noncomputable def K57 : (SV.denL ps57) → Option (rs57).den := F57 K96 Kg57_3
theorem okK57 : CallOK Try.prog 57 (mkCall ps57 rs57 K57) := call57 okK96 (lim_iterL _ _) (lim_iterL _ _)
noncomputable def K58 : (SV.denL ps58) → Option (rs58).den := F58 K96
theorem okK58 : CallOK Try.prog 58 (mkCall ps58 rs58 K58) := call58 okK96
noncomputable def K71 : (SV.denL ps71) → Option (rs71).den := F71
theorem okK71 : CallOK Try.prog 71 (mkCall ps71 rs71 K71) := call71
noncomputable def Kg59_4 : sh59_4.den → Option (denX w59_4) := iterL (S59_4 K71) 100
noncomputable def K59 : (SV.denL ps59) → Option (rs59).den := F59 K96 Kg59_4
theorem okK59 : CallOK Try.prog 59 (mkCall ps59 rs59 K59) := call59 okK71 okK96 (lim_iterL _ _)
noncomputable def Kg11_8 : sh11_8.den → Option (denX w11_8) := iterL (S11_8 K57 K58 K59 K60) 100
noncomputable def K11 : (SV.denL ps11) → Option (rs11).den := F11 K52 K53 K54 K55 K56 K61 Kg11_8
theorem okK11 : CallOK Try.prog 11 (mkCall ps11 rs11 K11) := call11 okK52 okK53 okK54 okK55 okK56 okK57 okK58 okK59 okK60 okK61 (lim_iterL _ _)
noncomputable def K22 : (SV.denL ps22) → Option (rs22).den := F22 K52 K53
theorem okK22 : CallOK Try.prog 22 (mkCall ps22 rs22 K22) := call22 okK52 okK53
noncomputable def K63 : (SV.denL ps63) → Option (rs63).den := F63
theorem okK63 : CallOK Try.prog 63 (mkCall ps63 rs63 K63) := call63
noncomputable def K64 : (SV.denL ps64) → Option (rs64).den := F64
theorem okK64 : CallOK Try.prog 64 (mkCall ps64 rs64 K64) := call64
noncomputable def Kg65_1 : sh65_1.den → Option (denX w65_1) := iterL (S65_1) 100
noncomputable def K65 : (psh65.den) → Option (rs65).den := F65 Kg65_1
theorem okK65 : CallOK Try.prog 65 (mkCallB psh65 rs65 m65 1 K65) := call65 (lim_iterL _ _)
noncomputable def K108 : (SV.denL ps108) → Option (rs108).den := F108
theorem okK108 : CallOK Try.prog 108 (mkCall ps108 rs108 K108) := call108
noncomputable def KD115 : Dt115 := colK (B115) (Y115) 100
theorem okKI115 : IterOK Try.prog 115 encs115 (cap115 KD115) := it115 (coll_colK _ _ _)
noncomputable def Kg99_4 : List El115 → sh99_4.den → Option (sh99_4.den ⊕ denX w99_4) := foldR (S99_4)
noncomputable def K99 : (SV.denL ps99) → Option (rs99).den := F99 K96 K108 KD115 Kg99_4
theorem okK99 : CallOK Try.prog 99 (mkCall ps99 rs99 K99) := call99 okKI115 okK108 okK96 (rfl)
noncomputable def KD98 : Dt98 := colK (B98 K99) (Y98 K99) 100
theorem okKI98 : IterOK Try.prog 98 encs98 (cap98 KD98) := it98 okK99 (coll_colK _ _ _)
noncomputable def Kg16_8 : List El98 → sh16_8.den → Option (sh16_8.den ⊕ denX w16_8) := foldR (S16_8)
noncomputable def K16 : (SV.denL ps16) → Option (rs16).den := F16 K22 K52 K53 K54 K63 K64 K65 KD98 Kg16_8
theorem okK16 : CallOK Try.prog 16 (mkCall ps16 rs16 K16) := call16 okKI98 okK22 okK52 okK53 okK54 okK63 okK64 okK65 (rfl)
noncomputable def K113 : (SV.denL ps113) → Option (rs113).den := F113
theorem okK113 : CallOK Try.prog 113 (mkCall ps113 rs113 K113) := call113
noncomputable def K100 : (SV.denL ps100) → Option (rs100).den := F100 K113
theorem okK100 : CallOK Try.prog 100 (mkCall ps100 rs100 K100) := call100 okK113
noncomputable def K69 : (SV.denL ps69) → Option (rs69).den := F69 K100
theorem okK69 : CallOK Try.prog 69 (mkCall ps69 rs69 K69) := call69 okK100
noncomputable def K68 : (SV.denL ps68) → Option (rs68).den := F68
theorem okK68 : CallOK Try.prog 68 (mkCall ps68 rs68 K68) := call68
noncomputable def Kg19_6 : sh19_6.den → Option (denX w19_6) := iterL (S19_6 K68) 100
noncomputable def K19 : (SV.denL ps19) → Option (rs19).den := F19 K22 K63 K69 Kg19_6
theorem okK19 : CallOK Try.prog 19 (mkCall ps19 rs19 K19) := call19 okK22 okK63 okK68 okK69 (lim_iterL _ _)
noncomputable def K70 : (SV.denL ps70) → Option (rs70).den := F70
theorem okK70 : CallOK Try.prog 70 (mkCall ps70 rs70 K70) := call70
noncomputable def K101 : (SV.denL ps101) → Option (rs101).den := F101
theorem okK101 : CallOK Try.prog 101 (mkCall ps101 rs101 K101) := call101
noncomputable def K21 : (SV.denL ps21) → Option (rs21).den := F21 K22 K52 K53 K63 K70 K71 K101
theorem okK21 : CallOK Try.prog 21 (mkCall ps21 rs21 K21) := call21 okK101 okK22 okK52 okK53 okK63 okK70 okK71
noncomputable def K75 : (SV.denL ps75) → Option (rs75).den := F75
theorem okK75 : CallOK Try.prog 75 (mkCall ps75 rs75 K75) := call75
noncomputable def Kg76_6 : sh76_6.den → Option (denX w76_6) := iterL (S76_6) 100
noncomputable def K76 : (SV.denL ps76) → Option (rs76).den := F76 K96 Kg76_6
theorem okK76 : CallOK Try.prog 76 (mkCall ps76 rs76 K76) := call76 okK96 (lim_iterL _ _)
noncomputable def K104 : (SV.denL ps104) → Option (rs104).den := F104
theorem okK104 : CallOK Try.prog 104 (mkCall ps104 rs104 K104) := call104
noncomputable def Kg114_2 : sh114_2.den → Option (denX w114_2) := iterL (S114_2 K104) 100
noncomputable def K114 : (SV.denL ps114) → Option (rs114).den := F114 Kg114_2
theorem okK114 : CallOK Try.prog 114 (mkCall ps114 rs114 K114) := call114 okK104 (lim_iterL _ _)
noncomputable def K103 : (SV.denL ps103) → Option (rs103).den := F103 K114
theorem okK103 : CallOK Try.prog 103 (mkCall ps103 rs103 K103) := call103 okK114
noncomputable def Kg77_6 : sh77_6.den → Option (denX w77_6) := iterL (S77_6 K71) 100
noncomputable def K77 : (SV.denL ps77) → Option (rs77).den := F77 K96 K103 Kg77_6
theorem okK77 : CallOK Try.prog 77 (mkCall ps77 rs77 K77) := call77 okK103 okK71 okK96 (lim_iterL _ _)
noncomputable def K25 : (SV.denL ps25) → Option (rs25).den := F25 K22 K52 K53 K58 K59 K61 K63 K75 K76 K77
theorem okK25 : CallOK Try.prog 25 (mkCall ps25 rs25 K25) := call25 okK22 okK52 okK53 okK58 okK59 okK61 okK63 okK75 okK76 okK77
noncomputable def Kg79_4 : List El115 → sh79_4.den → Option (sh79_4.den ⊕ denX w79_4) := foldR (S79_4)
noncomputable def K79 : (SV.denL ps79) → Option (rs79).den := F79 K108 KD115 Kg79_4
theorem okK79 : CallOK Try.prog 79 (mkCall ps79 rs79 K79) := call79 okKI115 okK108 (rfl)
abbrev K105 : (SV.denL ps105) → Option (rs105).den := C105
theorem okK105 : CallOK Try.prog 105 (mkCall ps105 rs105 K105) := callC105
noncomputable def K106 : (SV.denL ps106) → Option (rs106).den := F106
theorem okK106 : CallOK Try.prog 106 (mkCall ps106 rs106 K106) := call106
noncomputable def K107 : (SV.denL ps107) → Option (rs107).den := F107
theorem okK107 : CallOK Try.prog 107 (mkCall ps107 rs107 K107) := call107
noncomputable def Kg78_9 : sh78_9.den → Option (denX w78_9) := iterL (S78_9) 100
noncomputable def Kg78_18 : sh78_18.den → Option (denX w78_18) := iterL (S78_18) 100
noncomputable def Kg78_24 : sh78_24.den → Option (denX w78_24) := iterL (S78_24 K106) 100
noncomputable def Kg78_35 : sh78_35.den → Option (denX w78_35) := iterL (S78_35 K107) 100
noncomputable def Kg78_14 : sh78_14.den → Option (denX w78_14) := iterL (S78_14 K106 Kg78_18 Kg78_24 Kg78_35) 100
noncomputable def K78 : (SV.denL ps78) → Option (rs78).den := F78 K58 K76 K77 K79 K96 K99 K100 K105 Kg78_9 Kg78_14
theorem okK78 : CallOK Try.prog 78 (mkCall ps78 rs78 K78) := call78 okK100 okK105 okK106 okK107 okK58 okK76 okK77 okK79 okK96 okK99 (lim_iterL _ _) (lim_iterL _ _) (lim_iterL _ _) (lim_iterL _ _) (lim_iterL _ _)
noncomputable def Kg27_8 : sh27_8.den → Option (denX w27_8) := iterL (S27_8 K59 K61 K77 K78 K79) 100
noncomputable def K27 : (SV.denL ps27) → Option (rs27).den := F27 K22 K52 K53 K58 K63 K69 K76 Kg27_8
theorem okK27 : CallOK Try.prog 27 (mkCall ps27 rs27 K27) := call27 okK22 okK52 okK53 okK58 okK59 okK61 okK63 okK69 okK76 okK77 okK78 okK79 (lim_iterL _ _)
noncomputable def Kg109_3 : sh109_3.den → Option (denX w109_3) := iterL (S109_3 K22) 100
noncomputable def K109 : (SV.denL ps109) → Option (rs109).den := F109 Kg109_3
theorem okK109 : CallOK Try.prog 109 (mkCall ps109 rs109 K109) := call109 okK22 (lim_iterL _ _)
noncomputable def K85 : (SV.denL ps85) → Option (rs85).den := F85 K52 K109
theorem okK85 : CallOK Try.prog 85 (mkCall ps85 rs85 K85) := call85 okK109 okK52
noncomputable def Kg110_4 : sh110_4.den → Option (denX w110_4) := iterL (S110_4 K71 K106) 100
noncomputable def K110 : (SV.denL ps110) → Option (rs110).den := F110 K96 Kg110_4
theorem okK110 : CallOK Try.prog 110 (mkCall ps110 rs110 K110) := call110 okK106 okK71 okK96 (lim_iterL _ _)
noncomputable def K87 : (SV.denL ps87) → Option (rs87).den := F87 K59 K61 K63 K79 K110
theorem okK87 : CallOK Try.prog 87 (mkCall ps87 rs87 K87) := call87 okK110 okK59 okK61 okK63 okK79
noncomputable def K88 : (SV.denL ps88) → Option (rs88).den := F88 K61 K63
theorem okK88 : CallOK Try.prog 88 (mkCall ps88 rs88 K88) := call88 okK61 okK63
noncomputable def K89 : (SV.denL ps89) → Option (rs89).den := F89 K57 K61 K63
theorem okK89 : CallOK Try.prog 89 (mkCall ps89 rs89 K89) := call89 okK57 okK61 okK63
noncomputable def K86 : (SV.denL ps86) → Option (rs86).den := F86 K87 K88 K89
theorem okK86 : CallOK Try.prog 86 (mkCall ps86 rs86 K86) := call86 okK87 okK88 okK89
noncomputable def K90 : (SV.denL ps90) → Option (rs90).den := F90 K61 K63 K78 K87
theorem okK90 : CallOK Try.prog 90 (mkCall ps90 rs90 K90) := call90 okK61 okK63 okK78 okK87
noncomputable def Kg29_12 : sh29_12.den → Option (denX w29_12) := iterL (S29_12 K86) 100
noncomputable def Kg29_8 : sh29_8.den → Option (denX w29_8) := iterL (S29_8 K90 Kg29_12) 100
noncomputable def Kg29_18 : sh29_18.den → Option (denX w29_18) := iterL (S29_18 K88) 100
noncomputable def K29 : (SV.denL ps29) → Option (rs29).den := F29 K58 K61 K63 K85 Kg29_8 Kg29_18
theorem okK29 : CallOK Try.prog 29 (mkCall ps29 rs29 K29) := call29 okK58 okK61 okK63 okK85 okK86 okK88 okK90 (lim_iterL _ _) (lim_iterL _ _) (lim_iterL _ _)
noncomputable def Kg31_7 : sh31_7.den → Option (denX w31_7) := iterL (S31_7 K89 K90) 100
noncomputable def K31 : (SV.denL ps31) → Option (rs31).den := F31 K52 K53 K58 K61 K63 K69 K85 K90 Kg31_7
theorem okK31 : CallOK Try.prog 31 (mkCall ps31 rs31 K31) := call31 okK52 okK53 okK58 okK61 okK63 okK69 okK85 okK89 okK90 (lim_iterL _ _)
noncomputable def K39 : (SV.denL ps39) → Option (rs39).den := F39 K52 K53 K85 K90
theorem okK39 : CallOK Try.prog 39 (mkCall ps39 rs39 K39) := call39 okK52 okK53 okK85 okK90
noncomputable def K45 : (SV.denL ps45) → Option (rs45).den := F45
theorem okK45 : CallOK Try.prog 45 (mkCall ps45 rs45 K45) := call45
noncomputable def Kg62_6 : sh62_6.den → Option (denX w62_6) := iterL (S62_6) 100
noncomputable def K62 : (SV.denL ps62) → Option (rs62).den := F62 Kg62_6
theorem okK62 : CallOK Try.prog 62 (mkCall ps62 rs62 K62) := call62 (lim_iterL _ _)
noncomputable def K12 : (SV.denL ps12) → Option (rs12).den := F12 K62
theorem okK12 : CallOK Try.prog 12 (mkCall ps12 rs12 K12) := call12 okK62
noncomputable def K13 : (SV.denL ps13) → Option (rs13).den := F13
theorem okK13 : CallOK Try.prog 13 (mkCall ps13 rs13 K13) := call13
noncomputable def K46 : (SV.denL ps46) → Option (rs46).den := F46 K12 K13 K45
theorem okK46 : CallOK Try.prog 46 (mkCall ps46 rs46 K46) := call46 okK12 okK13 okK45
noncomputable def K9 : (SV.denL ps9) → Option (rs9).den := F9 K11 K16 K19 K21 K25 K27 K29 K31 K39 K45 K46
theorem okK9 : CallOK Try.prog 9 (mkCall ps9 rs9 K9) := call9 okK11 okK16 okK19 okK21 okK25 okK27 okK29 okK31 okK39 okK45 okK46
end Go.Proofs.Rf
/- The examples hold: they are reckoned out. -/
namespace Go.Proofs.Rf
open Go
theorem K9_val : K9 () = some ((true, ()), ()) := by kernel_rfl
end Go.Proofs.Rf
/- Numerals: the law returns true. -/
namespace Go.Proofs.Rf
open Go

/-- A number is the same as itself. -/
theorem L62_same {l : List Int} (hl : l.length < 1000000000) : L62 (l, l, ()) = some ((0, ()), ()) := by
  obtain ⟨z, h1, rfl⟩ := limL_ind (f := S62_6) (fun x => (x.1.2.2.1 + 1).toNat)
    (fun x => ∃ k : Nat, x = ((l, l, (k : Int) - 1, ()), ()) ∧ k ≤ l.length) (fun z => z = .inr ((), ())) (by
    rintro x ⟨k, rfl, hk⟩
    have e := S62_6_eq l l ((k : Int) - 1)
    by_cases h0 : k = 0
    · right
      subst h0
      refine ⟨_, ?_, rfl⟩
      rw [e]
      simp
    · left
      have e1 : ((k : Int) - 1).toNat = k - 1 := by omega
      have e2 : IntKind.i64.wrap ((k : Int) - 1 - 1) = ((k - 1 : Nat) : Int) - 1 := by rw [wi (by omega) (by omega)]; omega
      have p1 : ((k : Int) - 1 ≥ 0) := by omega
      have p3 : (k : Int) - 1 < (l.length : Int) := by omega
      simp only [e1, e2, decide_eq_true_eq, p1, p3, if_true, Int.lt_irrefl, gt_iff_lt, if_false] at e
      exact ⟨_, e, ⟨k - 1, rfl, by omega⟩, by show (((k - 1 : Nat) : Int) - 1 + 1).toNat < ((k : Int) - 1 + 1).toNat; omega⟩) ((l, l, ((l.length : Nat) : Int) - 1, ()), ()) ⟨l.length, rfl, Nat.le_refl _⟩
  show F62 Lg62_6 (l, l, ()) = _
  have hw : IntKind.i64.wrap ((l.length : Int) - 1) = (l.length : Int) - 1 := wi (by omega) (by omega)
  rw [F62_eq, hw, show Lg62_6 ((l, l, (l.length : Int) - 1, ()), ()) = _ from h1]
  simp

theorem L12_same {neg : Bool} {l : List Int} (hl : l.length < 1000000000) : L12 ((neg, l), (neg, l), ()) = some ((true, ()), ()) := by
  show F12 L62 ((neg, l), (neg, l), ()) = _
  rw [F12_eq, L62_same hl]
  simp

theorem L13_id (x : Bool × List Int) : L13 (x, ()) = some ((x, ()), ()) := by
  obtain ⟨neg, l⟩ := x
  show F13 ((neg, l), ()) = _
  rw [F13_eq]

end Go.Proofs.Rf
/- Right numbers: what Check tells; numbers as integers. -/
namespace Go.Proofs.Rf
open Go Go.RowKit

/-- The first error of two. -/
def fst2 (a b : Int) : Int := if a = 0 then b else a

theorem L52_two (a b : Int) : L52 ([a, b], ()) = some ((fst2 a b, ()), ()) := by
  rw [L52_spec (by simp)]
  unfold fst2
  by_cases ha : a = 0
  · subst ha
    by_cases hb : b = 0
    · subst hb; simp
    · simp [hb]
  · simp [ha]

/-- The error of a raw number. -/
def err (neg : Bool) (l : List Int) : Int :=
  if 200 < l.length then 5 else if (l.length = 0 ∧ neg = true) ∨ (0 < l.length ∧ l.getD (l.length - 1) 0 = 0) then 1 else 0

theorem L72_spec (b : Bool) (e : Int) : L72 (b, e, ()) = some ((if b = true then e else 0, ()), ()) := by
  show F72 (b, e, ()) = _
  rw [F72_eq]
  split <;> rfl

theorem L23_spec {neg : Bool} {l : List Int} (hl : l.length < 4611686018427387904) : L23 ((neg, l), ()) = some ((err neg l, ()), ()) := by
  show F23 L72 ((neg, l), ()) = _
  rw [F23_eq]
  unfold err
  by_cases h0 : l.length = 0
  · obtain rfl := List.eq_nil_of_length_eq_zero h0
    cases neg
    · show (L72 (false, 1, ())).bind _ = _
      rw [L72_spec]
      simp
    · show (L72 (true, 1, ())).bind _ = _
      rw [L72_spec]
      simp
  · have e : IntKind.i64.wrap ((l.length : Int) - 1) = ((l.length - 1 : Nat) : Int) := by rw [wi (by omega) (by omega)]; omega
    have p1 : ((l.length : Int) == 0) = false := by simpa using h0
    have p2 : (l.length : Int) > 0 := by omega
    have p3 : (0 : Int) ≤ ((l.length - 1 : Nat) : Int) := by omega
    have p4 : ((l.length - 1 : Nat) : Int) < (l.length : Int) := by omega
    have p5 : 0 < l.length := by omega
    by_cases h : 200 < l.length
    · have p6 : (l.length : Int) > 200 := by omega
      simp only [decide_eq_true_eq, p6, h, if_true]
    · have p6 : ¬ (l.length : Int) > 200 := by omega
      simp only [decide_eq_true_eq, p6, h, if_false, e, p1, p2, p3, p4, if_true, Bool.false_eq_true, Int.toNat_natCast, h0, false_and, false_or, p5, true_and]
      rw [L72_spec]
      simp only [Option.bind_some, beq_iff_eq]

theorem L22_spec {neg : Bool} {l : List Int} (hl : l.length < 4611686018427387904) : L22 ((neg, l), ()) = some ((err neg l, ()), ()) := by
  show F22 L52 L53 ((neg, l), ()) = _
  rw [F22_eq]
  unfold err
  by_cases h0 : l.length = 0
  · obtain rfl := List.eq_nil_of_length_eq_zero h0
    show ((L53 (false, 5, ())).bind fun y => (L53 (neg, 1, ())).bind fun y_1 => (L52 ([y.1.1, y_1.1.1], ())).bind fun y => some ((y.1.1, ()), ()) : Option rs22.den) = _
    rw [L53_spec, L53_spec]
    simp only [Option.bind_some]
    rw [L52_two]
    cases neg <;> simp [fst2]
  · have e : IntKind.i64.wrap ((l.length : Int) - 1) = ((l.length - 1 : Nat) : Int) := by rw [wi (by omega) (by omega)]; omega
    have p1 : ((l.length : Int) == 0) = false := by simpa using h0
    have p2 : (l.length : Int) > 0 := by omega
    have p3 : (0 : Int) ≤ ((l.length - 1 : Nat) : Int) := by omega
    have p4 : ((l.length - 1 : Nat) : Int) < (l.length : Int) := by omega
    have p5 : 0 < l.length := by omega
    simp only [decide_eq_true_eq, e, p1, p2, p3, p4, if_true, if_false, Bool.false_eq_true, Int.toNat_natCast, h0, false_and, false_or, p5, true_and]
    rw [L53_spec, L53_spec, L53_spec]
    simp only [Option.bind_some, if_true, if_false, Bool.false_eq_true]
    rw [L52_two, L52_two]
    simp only [Option.bind_some, decide_eq_true_eq, beq_iff_eq]
    by_cases h : 200 < l.length
    · have p6 : (l.length : Int) > 200 := by omega
      simp only [p6, h, if_true]
      split <;> simp [fst2]
    · have p6 : ¬ (l.length : Int) > 200 := by omega
      simp only [p6, h, if_false]
      split <;> simp [fst2]

/-! ### Numbers -/
/-- An integer as the texts hold it. -/
def zl (z : Int) : Bool × List Int := (decide (z < 0), lim z.natAbs)

theorem err_zero {neg : Bool} {l : List Int} (hw : Wf l) (h : err neg l = 0) : ∃ z, (neg, l) = zl z ∧ l.length ≤ 200 := by
  unfold err at h
  split at h
  · omega
  · rename_i h1
    split at h
    · omega
    · rename_i h2
      have e : l = lim (val l).toNat := by
        have := take_lim hw (n := l.length) (Nat.le_refl _) (fun i h1 h2 => by omega) (fun h3 h4 => h2 (.inr ⟨h3, h4⟩))
        rw [List.take_length] at this
        exact this
      have hv := val_nonneg hw
      refine ⟨if neg = true then - val l else val l, ?_, by omega⟩
      unfold zl
      cases neg
      · have : (val l).natAbs = (val l).toNat := by omega
        simp only [Bool.false_eq_true, if_false, this, ← e]
        congr 1
        simpa using hv
      · have hne : 0 < l.length := by
          rcases Nat.eq_zero_or_pos l.length with q | q
          · exact (h2 (.inl ⟨q, rfl⟩)).elim
          · exact q
        have hp : val l ≠ 0 := by
          intro hz
          rw [hz] at e
          rw [e] at hne
          simp [lim_zero] at hne
        have : (- val l).natAbs = (val l).toNat := by omega
        simp only [if_true, this, ← e]
        congr 1
        simp
        omega

theorem lim_eq_nil {n : Nat} : lim n = [] ↔ n = 0 := by
  constructor
  · intro h
    have := val_lim n
    rw [h] at this
    simp only [val] at this
    omega
  · rintro rfl
    exact lim_zero

theorem lim_inj {a b : Nat} (h : lim a = lim b) : a = b := by
  have h1 := val_lim a
  have h2 := val_lim b
  rw [h] at h1
  omega

theorem Nm.last : ∀ {l : List Int}, Nm l → 0 < l.length → l.getD (l.length - 1) 0 ≠ 0
  | [x], h, _ => h
  | x :: y :: r, h, _ => by
    have := Nm.last (l := y :: r) h (by simp)
    simpa using this

theorem lim_last {n : Nat} (h1 : 0 < (lim n).length) (h2 : (lim n).getD ((lim n).length - 1) 0 = 0) : False := (Nm_lim n).last h1 h2

theorem err_zl {z : Int} (h : (lim z.natAbs).length ≤ 200) : err (decide (z < 0)) (lim z.natAbs) = 0 := by
  unfold err
  rw [if_neg (by omega), if_neg]
  rintro (⟨h1, h2⟩ | ⟨h1, h2⟩)
  · have h3 := lim_eq_nil.1 (List.eq_nil_of_length_eq_zero h1)
    have h2 : z < 0 := by simpa using h2
    omega
  · exact lim_last h1 h2

theorem L13_two (neg : Bool) (l : List Int) : L13 ((neg, l), ()) = some (((neg, l), ()), ()) := L13_id (neg, l)

theorem L66_spec {neg : Bool} {l : List Int} (hl : l.length ≤ 4294967296) : L66 ((neg, l), ()) = some (((neg, l), ()), ()) := by
  show F66 ((neg, l), ()) = _
  rw [F66_eq, if_pos hl]

theorem L17_spec {neg : Bool} {l : List Int} (hl : l.length ≤ 4294967296) : L17 ((neg, l), ()) = some (((neg, l), ()), ()) := by
  show F17 L66 ((neg, l), ()) = _
  rw [F17_eq, L66_spec hl]
  rfl

/-- Whether numbers have at most so many limbs, or just too many. -/
theorem L14_spec {most : Int} {ls : List (Bool × List Int)} (hl : ls.length < 1000000) : ∃ b : Bool, L14 (most, ls, ()) = some ((b, ()), ()) ∧ (b = true → ∀ a ∈ ls, (a.2.length : Int) ≤ most ∨ a.2.length = 201) := by
  obtain ⟨z, h1, hz⟩ := limL_ind (f := S14_2) (fun x => ls.length - x.1.2.2.2.1.toNat)
    (fun x => ∃ i : Nat, x = ((most, ls, (ls.length : Int), (i : Int), ()), ()) ∧ ∀ j, j < i → ((ls.getD j (false, [])).2.length : Int) ≤ most ∨ (ls.getD j (false, [])).2.length = 201)
    (fun z => z = .inl ((false, ()), ()) ∨ (z = .inr ((), ()) ∧ ∀ j, j < ls.length → ((ls.getD j (false, [])).2.length : Int) ≤ most ∨ (ls.getD j (false, [])).2.length = 201)) (by
    rintro x ⟨i, rfl, hi⟩
    have e := S14_2_eq most ls (ls.length : Int) (i : Int)
    by_cases h0 : i < ls.length
    · have p0 : (0 : Int) ≤ (i : Int) := by omega
      have e6 : IntKind.i64.wrap ((i : Int) + 1) = ((i + 1 : Nat) : Int) := by rw [wi (by omega) (by omega)]; omega
      simp only [decide_eq_true_eq, Int.ofNat_lt, h0, if_true, p0, Int.toNat_natCast, e6] at e
      have inv : (((ls.getD i (false, [])).2.length : Int) ≤ most ∨ (ls.getD i (false, [])).2.length = 201) → ∀ j, j < i + 1 → ((ls.getD j (false, [])).2.length : Int) ≤ most ∨ (ls.getD j (false, [])).2.length = 201 := by
        intro hh j hj
        by_cases hj' : j < i
        · exact hi j hj'
        · obtain rfl : j = i := by omega
          exact hh
      by_cases h1 : ((ls.getD i (false, [])).2.length : Int) > most
      · rw [if_pos h1] at e
        by_cases h2 : (ls.getD i (false, [])).2.length = 201
        · rw [if_neg (show ¬ (!((ls.getD i (false, [])).2.length : Int) == 201) = true by rw [h2]; decide)] at e
          exact .inl ⟨_, e, ⟨i + 1, rfl, inv (.inr h2)⟩, by simp only [Int.toNat_natCast]; omega⟩
        · have h3 : (!((ls.getD i (false, [])).2.length : Int) == 201) = true := by
            rw [Bool.not_eq_true', beq_eq_false_iff_ne]
            omega
          rw [if_pos h3] at e
          exact .inr ⟨_, e, .inl rfl⟩
      · rw [if_neg h1] at e
        exact .inl ⟨_, e, ⟨i + 1, rfl, inv (.inl (by omega))⟩, by simp only [Int.toNat_natCast]; omega⟩
    · right
      simp only [decide_eq_true_eq, Int.ofNat_lt, h0, if_false] at e
      exact ⟨_, e, .inr ⟨rfl, fun j hj => hi j (by omega)⟩⟩) ((most, ls, (ls.length : Int), ((0 : Nat) : Int), ()), ()) ⟨0, rfl, by intro j hj; omega⟩
  have h1 : Lg14_2 ((most, ls, (ls.length : Int), 0, ()), ()) = some z := h1
  have hF : L14 (most, ls, ()) = _ := F14_eq Lg14_2 most ls
  rw [h1] at hF
  rcases hz with rfl | ⟨rfl, hj⟩
  · exact ⟨false, hF, fun h => by cases h⟩
  · refine ⟨true, hF, fun _ a ha => ?_⟩
    obtain ⟨i, hi, rfl⟩ := List.getElem_of_mem ha
    have := hj i hi
    rw [List.getD_eq_getElem?_getD, List.getElem?_eq_getElem hi] at this
    exact this
end Go.Proofs.Rf
/- Short division, in both texts; what slices.Backward gives. -/
namespace Go.Proofs.Rf
open Go Go.RowKit

theorem drop_set_at {l : List Int} {i : Nat} {v : Int} (h : i < l.length) : (l.set i v).drop i = v :: l.drop (i + 1) := by
  rw [List.drop_eq_getElem_cons (by simpa using h)]
  congr 1
  · simp
  · rw [List.drop_set, if_pos (by omega)]

theorem take_set_at {l : List Int} {i k : Nat} {v : Int} (h : k ≤ i) : (l.set i v).take k = l.take k := by
  rw [List.take_set, List.set_eq_of_length_le]
  simp
  omega

theorem drop_at {l : List Int} {i : Nat} (h : i < l.length) : l.drop i = l.getD i 0 :: l.drop (i + 1) := by
  rw [List.drop_eq_getElem_cons h, List.getD_eq_getElem?_getD, List.getElem?_eq_getElem h]
  rfl

/-- Division by a limb, from the highest limb down. -/
def divS (d : Int) : List Int → List Int × Int
  | [] => ([], 0)
  | x :: r => (((divS d r).2 * 4294967296 + x) / d :: (divS d r).1, ((divS d r).2 * 4294967296 + x) % d)

theorem divS_rest {d : Int} (hd : 0 < d) : ∀ l, 0 ≤ (divS d l).2 ∧ (divS d l).2 < d
  | [] => ⟨Int.le_refl _, hd⟩
  | _ :: _ => ⟨Int.emod_nonneg _ (by omega), Int.emod_lt_of_pos _ hd⟩

theorem divS_length {d : Int} : ∀ l, (divS d l).1.length = l.length
  | [] => rfl
  | _ :: r => by
    show (divS d r).1.length + 1 = _
    rw [divS_length r]
    rfl

theorem divS_val {d : Int} (hd : 0 < d) : ∀ l, val l = d * val (divS d l).1 + (divS d l).2
  | [] => by simp [val, divS]
  | x :: r => by
    have ih := divS_val hd r
    have h := Int.mul_ediv_add_emod ((divS d r).2 * 4294967296 + x) d
    show x + 4294967296 * val r = d * (((divS d r).2 * 4294967296 + x) / d + 4294967296 * val (divS d r).1) + ((divS d r).2 * 4294967296 + x) % d
    grind

theorem divS_Wf {d : Int} (hd : 0 < d) : ∀ {l}, Wf l → Wf (divS d l).1
  | [], _ => Wf.nil
  | x :: r, h => by
    have hr := divS_rest hd r
    have hx := h.head
    refine Wf.cons (Int.ediv_nonneg (by omega) (by omega)) ?_ (divS_Wf hd h.tail)
    refine Int.ediv_lt_of_lt_mul hd ?_
    have : ((divS d r).2 + 1) * 4294967296 ≤ d * 4294967296 := Int.mul_le_mul_of_nonneg_right (by omega) (by decide)
    grind

theorem divS_quot {d : Int} (hd : 0 < d) (l : List Int) : val (divS d l).1 = val l / d ∧ (divS d l).2 = val l % d := by
  have h1 := divS_val hd l
  have h2 := divS_rest hd l
  have h3 := Int.ediv_emod_unique (a := val l) (q := val (divS d l).1) (r := (divS d l).2) hd
  have := h3.2 ⟨by omega, h2.1, h2.2⟩
  exact ⟨this.1.symm, this.2.symm⟩

/-! ### slices.Backward -/
def desc (l : List Int) : Nat → List (Int × Int)
  | 0 => []
  | k + 1 => ((k : Int), l.getD k 0) :: desc l k

theorem Y115_done (l : List Int) : Y115 (((), -1, ()), ((l, ()), ())) = some RY.done := by
  rw [Y115_eq]
  rfl

theorem Y115_go {l : List Int} {k : Nat} (h : k < l.length) (hl : l.length < 4611686018427387904) : Y115 (((), (k : Int), ()), ((l, ()), ())) = some (RY.yl ((k : Int), l.getD k 0) (((), (k : Int) - 1, ()), (l, ()), ())) := by
  rw [Y115_eq]
  have e : IntKind.i64.wrap ((k : Int) - 1) = (k : Int) - 1 := wi (by omega) (by omega)
  simp only [decide_eq_true_eq, ge_iff_le, show (0 : Int) ≤ (k : Int) by omega, if_true, Int.ofNat_lt, h, Int.toNat_natCast, e]

theorem colY_desc {l : List Int} (hl : l.length < 4611686018427387904) : ∀ k, k ≤ l.length → colY Y115 (k + 1) (((), (k : Int) - 1, ()), ((l, ()), ())) = some (desc l k)
  | 0, _ => by
    show (match Y115 (((), (((0 : Nat) : Int)) - 1, ()), ((l, ()), ())) with | some (.go y) => colY Y115 0 y | some .done => some [] | some (.yl e y) => (match colY Y115 0 y with | some r => some (e :: r) | none => none) | none => none) = _
    rw [show (((0 : Nat) : Int)) - 1 = -1 from rfl, Y115_done]
    rfl
  | k + 1, hk => by
    unfold colY
    rw [show ((k + 1 : Nat) : Int) - 1 = (k : Int) by omega, Y115_go (by omega) hl]
    simp only
    rw [colY_desc hl k (by omega)]
    rfl

theorem LD115_spec {l : List Int} (hl : l.length < 4611686018427387904) : LD115 (((), ()), ((l, ()), ())) = some (desc l l.length) := by
  refine colLim_some (l.length + 1) ?_
  show (B115 (((), ()), ((l, ()), ()))).bind _ = _
  rw [B115_eq]
  have e : IntKind.i64.wrap ((l.length : Int) - 1) = (l.length : Int) - 1 := wi (by omega) (by omega)
  rw [e]
  exact colY_desc hl l.length (Nat.le_refl _)

theorem L108_spec (l : List Int) : L108 (l, ()) = some ((((), ()), ()), (l, ()), ()) := F108_eq l

/-- A loop over a list from its end, with an exit. -/
theorem foldR_desc {A B : Type} {l : List Int} {f : Int × Int → A → Option (A ⊕ B)} (I : Nat → A → Prop) (Q : B → Prop)
    (h : ∀ j x, j < l.length → I (j + 1) x → (∃ y, f ((j : Int), l.getD j 0) x = some (.inl y) ∧ I j y) ∨ ∃ z, f ((j : Int), l.getD j 0) x = some (.inr z) ∧ Q z) :
    ∀ k x, k ≤ l.length → I k x → (∃ y, foldR f (desc l k) x = some (.inl y) ∧ I 0 y) ∨ ∃ z, foldR f (desc l k) x = some (.inr z) ∧ Q z
  | 0, x, _, hx => .inl ⟨x, rfl, hx⟩
  | k + 1, x, hk, hx => by
    rcases h k x (by omega) hx with ⟨y, h1, h2⟩ | ⟨z, h1, h2⟩
    · rcases foldR_desc I Q h k y (by omega) h2 with ⟨y', h3, h4⟩ | ⟨z, h3, h4⟩
      · refine .inl ⟨y', ?_, h4⟩
        show (match f ((k : Int), l.getD k 0) x with | some (.inl y) => foldR f (desc l k) y | some (.inr z) => some (.inr z) | none => none) = _
        rw [h1]
        exact h3
      · refine .inr ⟨z, ?_, h4⟩
        show (match f ((k : Int), l.getD k 0) x with | some (.inl y) => foldR f (desc l k) y | some (.inr z) => some (.inr z) | none => none) = _
        rw [h1]
        exact h3
    · refine .inr ⟨z, ?_, h2⟩
      show (match f ((k : Int), l.getD k 0) x with | some (.inl y) => foldR f (desc l k) y | some (.inr z) => some (.inr z) | none => none) = _
      rw [h1]

/-! ### by -/
/-- One limb of a short division, in the program. -/
theorem S99_step {d c x : Int} {i : Nat} {r : List Int} (hd : 0 < d) (hd1 : d < 4294967296) (hc : 0 ≤ c) (hc1 : c < d) (hx : 0 ≤ x) (hx1 : x < 4294967296) (hi : i < r.length) :
    S99_4 ((i : Int), x) (((), (), (), ()), ((d, ()), ((), ()), (c, ()), r, ())) = some (.inl (((), (), (), ()), (d, ()), ((), ()), ((c * 4294967296 + x) % d, ()), r.set i ((c * 4294967296 + x) / d), ())) := by
  rw [S99_4_eq]
  have e1 : IntKind.u64.wrap d = d := w64 (by omega) (by omega)
  have e2 : IntKind.u64.wrap (c * 2 ^ 32) = c * 4294967296 := w64 (by omega) (by omega)
  have e3 : IntKind.u64.wrap x = x := w64 (by omega) (by omega)
  have e4 : bitop .or .u64 (c * 4294967296) x = c * 4294967296 + x := by
    obtain ⟨c', rfl⟩ := Int.eq_ofNat_of_zero_le hc
    obtain ⟨x', rfl⟩ := Int.eq_ofNat_of_zero_le hx
    have := or64 (x := c' * 4294967296) (y := x') (by omega) (by omega)
    rw [or_parts (k := 32) (by omega)] at this
    simp only [Int.natCast_mul, Int.natCast_add] at this
    exact this
  have q0 : 0 ≤ (c * 4294967296 + x) / d := Int.ediv_nonneg (by omega) (by omega)
  have q1 : (c * 4294967296 + x) / d < 4294967296 := by
    refine Int.ediv_lt_of_lt_mul hd ?_
    have : (c + 1) * 4294967296 ≤ d * 4294967296 := Int.mul_le_mul_of_nonneg_right (by omega) (by decide)
    grind
  have e5 : Int.tdiv (c * 4294967296 + x) d = (c * 4294967296 + x) / d := Int.tdiv_eq_ediv_of_nonneg (by omega)
  have e6 : Int.tmod (c * 4294967296 + x) d = (c * 4294967296 + x) % d := Int.tmod_eq_emod_of_nonneg (by omega)
  have e7 : IntKind.u64.wrap ((c * 4294967296 + x) / d) = (c * 4294967296 + x) / d := w64 q0 (by omega)
  have e8 : IntKind.u32.wrap ((c * 4294967296 + x) / d) = (c * 4294967296 + x) / d := w32 q0 q1
  rw [e1, e2, e3, e4, e5, e6, e7, e8]
  rw [if_neg (show ¬ d = 0 by omega), if_neg (show ¬ d = 0 by omega), if_pos (show (0 : Int) ≤ (i : Int) by omega), if_pos (show (i : Int) < (r.length : Int) by omega), Int.toNat_natCast]

theorem L99_spec {a : List Int} {d : Int} (wa : Wf a) (hl : a.length < 1000000000) (hd : 0 < d) (hd1 : d < 4294967296) : L99 (a, d, ()) = some ((lim (val a / d).toNat, val a % d, ()), ()) := by
  show F99 L96 L108 LD115 Lg99_4 (a, d, ()) = _
  rw [F99_eq, L108_spec]
  rw [if_pos (Int.le_refl _), if_pos (show (a.length : Int) ≤ ((4294967296 : Nat) : Int) by omega)]
  show (LD115 (((), ()), ((a, ()), ()))).bind _ = _
  rw [LD115_spec (by omega)]
  simp only [Option.bind_some, Int.toNat_natCast]
  have h := foldR_desc (l := a) (f := S99_4) (fun k x => ∃ c r, x = (((), (), (), ()), ((d, ()), ((), ()), (c, ()), r, ())) ∧ r.length = a.length ∧ r.drop k = (divS d (a.drop k)).1 ∧ c = (divS d (a.drop k)).2) (fun _ => False) (by
    rintro j x hj ⟨c, r, rfl, hr, hq, hc⟩
    have xa := wa.getD j
    have hrest := divS_rest hd (a.drop (j + 1))
    rw [← hc] at hrest
    left
    refine ⟨_, S99_step hd hd1 hrest.1 hrest.2 xa.1 xa.2 (by omega), _, _, rfl, by simp [hr], ?_, ?_⟩
    · rw [drop_set_at (by omega), drop_at hj, hq]
      show _ = _ :: _
      rw [hc]
    · rw [drop_at hj]
      show _ = ((divS d (a.drop (j + 1))).2 * 4294967296 + a.getD j 0) % d
      rw [hc]) a.length (((), (), (), ()), ((d, ()), ((), ()), (0, ()), List.replicate a.length 0, ())) (Nat.le_refl _) ⟨0, _, rfl, by simp, by rw [List.drop_of_length_le (by simp), List.drop_of_length_le (Nat.le_refl _)]; rfl, by rw [List.drop_of_length_le (Nat.le_refl _)]; rfl⟩
  rcases h with ⟨y, h1, c, r, rfl, hr, hq, hc⟩ | ⟨z, _, hz⟩
  · have h1 : Lg99_4 (desc a a.length) (((), (), (), ()), (d, ()), ((), ()), (0, ()), List.replicate a.length 0, ()) = _ := h1
    rw [h1]
    rw [List.drop_zero, List.drop_zero] at hq
    rw [List.drop_zero] at hc
    have hv := divS_quot hd a
    have hrr := divS_rest hd a
    simp only [Option.bind_some, Sum.elim_inl]
    rw [hq, L96_spec (divS_Wf hd wa) (by rw [divS_length]; omega)]
    simp only [Option.bind_some]
    rw [hv.1, hc, w32 (by omega) (by omega), hv.2]
  · exact hz.elim
end Go.Proofs.Rf
/- Text, in both texts. -/
namespace Go.Proofs.Rf
open Go Go.RowKit
/-! ### Turning round -/
def swp (l : List Int) (i k : Nat) : List Int := (l.set i (l.getD k 0)).set k (l.getD i 0)

/-- From i on, ahead of e. -/
def rv : Nat → Nat → Nat → List Int → List Int
  | 0, _, _, l => l
  | m + 1, i, e, l => if i + 1 < e then rv m (i + 1) (e - 1) (swp l i (e - 1)) else l

theorem getD_ext {a b : List Int} (h : a.length = b.length) (k : ∀ j, j < a.length → a.getD j 0 = b.getD j 0) : a = b := by
  refine List.ext_getElem h fun i h1 h2 => ?_
  have := k i h1
  rw [List.getD_eq_getElem?_getD, List.getD_eq_getElem?_getD, List.getElem?_eq_getElem h1, List.getElem?_eq_getElem h2] at this
  exact this

end Go.Proofs.Rf
/- Text, in both texts: the digits. -/
namespace Go.Proofs.Rf
open Go Go.RowKit

theorem castB (m : Nat) : ((4294967296 ^ m : Nat) : Int) = (4294967296 : Int) ^ m := Int.natCast_pow 4294967296 m

theorem lim_length_of {n k : Nat} (h : n < 4294967296 ^ k) : (lim n).length ≤ k := by
  by_cases h0 : n = 0
  · subst h0; rw [lim_zero]; simp
  · have hp : 0 < (lim n).length := by
      rcases Nat.eq_zero_or_pos (lim n).length with q | q
      · exact (h0 (lim_eq_nil.1 (List.eq_nil_of_length_eq_zero q))).elim
      · exact q
    obtain ⟨m, hm⟩ : ∃ m, (lim n).length = m + 1 := ⟨(lim n).length - 1, by omega⟩
    have h1 := (Nm_lim n).last hp
    have h2 := val_take_succ (lim n) m
    rw [← hm, List.take_length, val_lim] at h2
    have h3 := val_nonneg ((Wf_lim n).take m)
    have h4 := (Wf_lim n).getD m
    rw [hm, Nat.add_sub_cancel] at h1
    have h5 : (4294967296 : Int) ^ m ≤ n := by
      have h6 : (4294967296 : Int) ^ m * 1 ≤ 4294967296 ^ m * (lim n).getD m 0 := Int.mul_le_mul_of_nonneg_left (by omega) (Int.le_of_lt (powB_pos m))
      omega
    have h7 : 4294967296 ^ m ≤ n := by rw [← castB] at h5; exact Int.ofNat_le.1 h5
    have h8 : 4294967296 ^ m < 4294967296 ^ k := by omega
    have := (Nat.pow_lt_pow_iff_right (by decide : 1 < 4294967296)).1 h8
    omega

theorem lim_lt (n : Nat) : n < 4294967296 ^ (lim n).length := by
  have := val_lt (Wf_lim n)
  rw [val_lim, ← castB] at this
  exact Int.ofNat_lt.1 this

theorem lim_length_iff {n k : Nat} : (lim n).length ≤ k ↔ n < 4294967296 ^ k :=
  ⟨fun h => Nat.lt_of_lt_of_le (lim_lt n) (Nat.pow_le_pow_right (by decide) h), lim_length_of⟩

theorem lim_length_mono {a b : Nat} (h : a ≤ b) : (lim a).length ≤ (lim b).length := lim_length_of (Nat.lt_of_le_of_lt h (lim_lt b))

end Go.Proofs.Rf
/- The reference's Text. -/
namespace Go.Proofs.Rf
open Go Go.RowKit

theorem L50B_spec {l : List Int} (hw : Wf l) (hl : l.length < 4611686018427387904) : ∃ n : Nat, L50B (((), ()), (l, ())) = some (((), n, ()), (l, ())) ∧ l.take n = lim (val l).toNat := by
  obtain ⟨z, h1, n, rfl, hn, hz, hlast⟩ := limL_ind (f := S50B_2) (fun x => x.1.2.1.toNat) (fun x => ∃ n : Nat, x = (((), (n : Int), ()), (l, ())) ∧ n ≤ l.length ∧ ∀ i, n ≤ i → i < l.length → l.getD i 0 = 0)
    (fun z => ∃ n : Nat, z = (((), (n : Int), ()), (l, ())) ∧ n ≤ l.length ∧ (∀ i, n ≤ i → i < l.length → l.getD i 0 = 0) ∧ (0 < n → l.getD (n - 1) 0 ≠ 0)) (by
    rintro x ⟨n, rfl, hn, hz⟩
    rcases Nat.eq_zero_or_pos n with rfl | hp
    · right
      refine ⟨_, ?_, 0, rfl, hn, hz, fun h => absurd h (by omega)⟩
      rw [S50B_2_eq, if_neg (by simp)]
    · have hw : IntKind.i64.wrap ((n : Int) - 1) = ((n - 1 : Nat) : Int) := by rw [wi (by omega) (by omega)]; omega
      have e := S50B_2_eq (n : Int) l
      rw [hw, if_pos (by simp; omega), if_pos (by omega), if_pos (by omega), Int.toNat_natCast] at e
      by_cases hx : l.getD (n - 1) 0 = 0
      · left
        rw [if_pos (by rw [hx]; rfl)] at e
        refine ⟨_, e, ⟨n - 1, rfl, by omega, fun i h1 h2 => ?_⟩, ?_⟩
        · rcases Nat.eq_or_lt_of_le h1 with q | q
          · rw [← q]; exact hx
          · exact hz i (by omega) h2
        · simp only [Int.toNat_natCast]; omega
      · right
        rw [if_neg (by simpa using hx)] at e
        exact ⟨_, e, n, rfl, hn, hz, fun _ => hx⟩) (((), (l.length : Int), ()), (l, ())) ⟨l.length, rfl, Nat.le_refl _, fun i h1 h2 => absurd h2 (by omega)⟩
  refine ⟨n, ?_, take_lim hw hn hz hlast⟩
  show F50B Lg50B_2 (((), ()), (l, ())) = _
  rw [F50B_eq, show Lg50B_2 (((), (l.length : Int), ()), l, ()) = _ from h1]
  show (if 0 ≤ (n : Int) then if (n : Int) ≤ (l.length : Int) then some (((), (n : Int).toNat - 0, ()), l, ()) else none else none) = _
  rw [if_pos (by omega), if_pos (by omega), Int.toNat_natCast]
  rfl

end Go.Proofs.Rf
/- Bits and Wrap, in both texts. -/
namespace Go.Proofs.Rf
open Go Go.RowKit

theorem getD_val : ∀ {l : List Int} (_ : Wf l) {n : Nat} (_ : val l = (n : Int)) (i : Nat), l.getD i 0 = ((n / 4294967296 ^ i % 4294967296 : Nat) : Int)
  | [], _, n, hv, i => by
    have : n = 0 := by
      simp only [val] at hv
      omega
    subst this
    simp
  | x :: r, hw, n, hv, i => by
    have hx := hw.head
    have hr := val_nonneg hw.tail
    simp only [val] at hv
    cases i with
    | zero =>
      show x = _
      simp only [Nat.pow_zero, Nat.div_one]
      omega
    | succ i =>
      show r.getD i 0 = _
      have h1 : val r = ((n / 4294967296 : Nat) : Int) := by omega
      rw [getD_val hw.tail h1 i, Nat.div_div_eq_div_mul, Nat.pow_succ, Nat.mul_comm (4294967296 ^ i)]

theorem limG (n i : Nat) : (lim n).getD i 0 = ((n / 4294967296 ^ i % 4294967296 : Nat) : Int) := getD_val (Wf_lim n) (val_lim n) i

theorem B_pow (i : Nat) : 4294967296 ^ i = 2 ^ (32 * i) := by
  rw [show (4294967296 : Nat) = 2 ^ 32 from rfl, ← Nat.pow_mul]

/-- A bit of a number, off its limbs. -/
theorem bit_val {l : List Int} (hw : Wf l) {n : Nat} (hv : val l = (n : Int)) (j : Nat) : bitop .and .u32 (Int.fdiv (l.getD (j / 32) 0) (2 ^ (j % 32))) 1 = ((n / 2 ^ j % 2 : Nat) : Int) := by
  rw [getD_val hw hv, fdiv_pow]
  have h1 : n / 4294967296 ^ (j / 32) % 4294967296 / 2 ^ (j % 32) < 4294967296 := Nat.lt_of_le_of_lt (Nat.div_le_self _ _) (Nat.mod_lt _ (by decide))
  have h2 := and32 (y := 1) h1 (by decide)
  rw [show (1 : Int) = ((1 : Nat) : Int) from rfl, h2, Nat.and_one_is_mod]
  congr 1
  rw [show (4294967296 : Nat) = 2 ^ (j % 32) * 2 ^ (31 - j % 32) * 2 by
    rw [← Nat.pow_add, show j % 32 + (31 - j % 32) = 31 by omega]]
  rw [Nat.mul_assoc, Nat.mod_mul_right_div_self, Nat.mul_comm _ 2, Nat.mod_mul_right_mod]
  rw [show 2 ^ (j % 32) * (2 * 2 ^ (31 - j % 32)) = 4294967296 by
    rw [Nat.mul_comm 2, ← Nat.pow_succ, ← Nat.pow_add, show j % 32 + (31 - j % 32).succ = 32 by omega]]
  rw [B_pow, Nat.div_div_eq_div_mul, ← Nat.pow_add, Nat.div_add_mod]

theorem wi_div {j : Nat} (hj : j < 1000000000000) : IntKind.i64.wrap (Int.tdiv (j : Int) 32) = ((j / 32 : Nat) : Int) := by
  rw [Int.tdiv_eq_ediv_of_nonneg (by omega), wi (by omega) (by omega)]
  omega
theorem wi_mod (j : Nat) : Int.tmod (j : Int) 32 = ((j % 32 : Nat) : Int) := by
  rw [Int.tmod_eq_emod_of_nonneg (by omega)]
  omega

theorem bit_one {n k : Nat} (h : n < 2 ^ (k + 1)) : n / 2 ^ k % 2 = n / 2 ^ k := by
  refine Nat.mod_eq_of_lt ((Nat.div_lt_iff_lt_mul (Nat.two_pow_pos k)).2 ?_)
  rw [Nat.pow_succ] at h
  omega

theorem L67_spec {l : List Int} (hw : Wf l) {n : Nat} (hv : val l = (n : Int)) (hl : l.length < 1000000000) : L67 (l, ()) = some (((bl n : Int), ()), ()) := by
  have hlt : n < 2 ^ (32 * l.length) := by
    have := val_lt hw
    rw [hv, ← castB, B_pow] at this
    exact Int.ofNat_lt.1 this
  obtain ⟨z, h1, rfl⟩ := limL_ind (f := S67_2) (fun x => x.1.2.1.toNat) (fun x => ∃ k : Nat, x = ((l, (k : Int), ()), ()) ∧ k ≤ 32 * l.length ∧ n < 2 ^ k)
    (fun z => z = (((bl n : Int), ()), ())) (by
    rintro x ⟨k, rfl, hk, hn⟩
    have e := S67_2_eq l (k : Int)
    rcases Nat.eq_zero_or_pos k with rfl | hp
    · right
      have : n = 0 := by simpa using hn
      subst this
      rw [if_neg (by simp)] at e
      exact ⟨_, e, rfl⟩
    · obtain ⟨k, rfl⟩ : ∃ k', k = k' + 1 := ⟨k - 1, by omega⟩
      have e1 : IntKind.i64.wrap (((k + 1 : Nat) : Int) - 1) = (k : Int) := by rw [wi (by omega) (by omega)]; omega
      have e2 := wi_div (j := k) (by omega)
      have e3 := wi_mod k
      have p1 : ((k + 1 : Nat) : Int) > 0 := by omega
      have p2 : (0 : Int) ≤ ((k / 32 : Nat) : Int) := by omega
      have p3 : ((k / 32 : Nat) : Int) < (l.length : Int) := by omega
      have p4 : ¬ ((k % 32 : Nat) : Int) < 0 := by omega
      have e4 : min (k % 32) 32 = k % 32 := by omega
      have e5 := bit_val hw hv k
      simp only [e1, e2, e3, decide_eq_true_eq, p1, p2, p3, p4, if_true, if_false, Int.toNat_natCast, e4, e5] at e
      have hb := bit_one hn
      by_cases h0 : n / 2 ^ k = 0
      · left
        have h2 : (((n / 2 ^ k % 2 : Nat) : Int) == 0) = true := by rw [hb, h0]; rfl
        rw [if_pos h2] at e
        refine ⟨_, e, ⟨k, rfl, by omega, ?_⟩, by simp only [Int.toNat_natCast]; omega⟩
        rcases Nat.div_eq_zero_iff.1 h0 with q | q
        · have := Nat.two_pow_pos k; omega
        · exact q
      · right
        have h2 : ¬ (((n / 2 ^ k % 2 : Nat) : Int) == 0) = true := by
          rw [hb, beq_iff_eq]
          omega
        rw [if_neg h2] at e
        refine ⟨_, e, ?_⟩
        have h3 : 2 ^ k ≤ n := by
          rcases Nat.lt_or_ge n (2 ^ k) with q | q
          · exact (h0 (Nat.div_eq_of_lt q)).elim
          · exact q
        rw [bl_eq h3 hn]) ((l, ((32 * l.length : Nat) : Int), ()), ()) ⟨32 * l.length, rfl, Nat.le_refl _, hlt⟩
  show F67 Lg67_2 (l, ()) = _
  have e6 : IntKind.i64.wrap (32 * (l.length : Int)) = ((32 * l.length : Nat) : Int) := by rw [wi (by omega) (by omega)]; omega
  rw [F67_eq, e6, show Lg67_2 ((l, ((32 * l.length : Nat) : Int), ()), ()) = _ from h1]
  rfl

/-- The highest limb. -/
theorem lim_top {n : Nat} (h : n ≠ 0) : ∃ k, (lim n).length = k + 1 ∧ (lim n).getD k 0 = ((n / 4294967296 ^ k : Nat) : Int) ∧ n / 4294967296 ^ k ≠ 0 ∧ n / 4294967296 ^ k < 4294967296 := by
  have hp : 0 < (lim n).length := by
    rcases Nat.eq_zero_or_pos (lim n).length with q | q
    · exact (h (lim_eq_nil.1 (List.eq_nil_of_length_eq_zero q))).elim
    · exact q
  obtain ⟨k, hk⟩ : ∃ k, (lim n).length = k + 1 := ⟨(lim n).length - 1, by omega⟩
  have h1 := lim_lt n
  have h2 : n / 4294967296 ^ k < 4294967296 := by
    refine (Nat.div_lt_iff_lt_mul (Nat.pow_pos (by decide))).2 ?_
    rw [hk, Nat.pow_succ, Nat.mul_comm] at h1
    exact h1
  have h3 := limG n k
  rw [Nat.mod_eq_of_lt h2] at h3
  have h4 := (Nm_lim n).last hp
  rw [hk, Nat.add_sub_cancel, h3] at h4
  exact ⟨k, hk, h3, by omega, h2⟩

theorem L100_spec {x : Nat} (h : x < 4294967296) : L100 ((x : Int), ()) = some (((32 - (bl x : Int)), ()), ()) := by
  show F100 L113 ((x : Int), ()) = _
  rw [F100_eq, show L113 ((x : Int), ()) = _ from F113_spec h]
  have := bl_le_of (k := 32) (x := x) (by simpa using h)
  simp only [Option.bind_some]
  rw [wi (by omega) (by omega)]

theorem L69_spec {n : Nat} (hl : (lim n).length < 1000000000) : L69 (lim n, ()) = some (((bl n : Int), ()), ()) := by
  show F69 L100 (lim n, ()) = _
  rw [F69_eq]
  by_cases h : n = 0
  · subst h
    rw [lim_zero]
    rfl
  · obtain ⟨k, h1, h2, h3, h4⟩ := lim_top h
    have e1 : IntKind.i64.wrap (((lim n).length : Int) - 1) = (k : Int) := by rw [wi (by omega) (by omega)]; omega
    have p1 : (((lim n).length : Int) == 0) = false := by
      rw [beq_eq_false_iff_ne]
      omega
    have p2 : (k : Int) < ((lim n).length : Int) := by omega
    have p3 : (0 : Int) ≤ (k : Int) := by omega
    simp only [e1, p1, Bool.false_eq_true, if_false, p2, p3, if_true, Int.toNat_natCast, h2]
    rw [L100_spec h4]
    simp only [Option.bind_some]
    have h5 := bl_le_of (k := 32) (x := n / 4294967296 ^ k) (by simpa using h4)
    rw [B_pow] at h3 h5 ⊢
    have h6 := bl_shift h3
    rw [wi (n := 32 * ((lim n).length : Int)) (by omega) (by omega), wi (by omega) (by omega)]
    rw [show 32 * ((lim n).length : Int) - (32 - ((bl (n / 2 ^ (32 * k)) : Nat) : Int)) = (bl n : Int) by omega]

end Go.Proofs.Rf
/- Comparing and differences of limbs, in both texts. -/
namespace Go.Proofs.Rf
open Go Go.RowKit

theorem xor32 {x y : Nat} (hx : x < 4294967296) (hy : y < 4294967296) : bitop .xor .u32 (x : Int) (y : Int) = ((x ^^^ y : Nat) : Int) := by
  show IntKind.u32.wrap ((((BitVec.ofInt 32 (x : Int)) ^^^ (BitVec.ofInt 32 (y : Int))).toNat : Nat) : Int) = _
  rw [BitVec.toNat_xor, ofInt_toNat 32 x hx, ofInt_toNat 32 y hy]
  have := @Nat.xor_lt_two_pow x y 32 hx hy
  exact w32 (by omega) (by omega)

theorem top_bit {n : Nat} (h : n < 4294967296) : n / 2 ^ 31 = (n.testBit 31).toNat := by
  rw [Nat.testBit_eq_decide_div_mod_eq]
  by_cases q : n / 2 ^ 31 % 2 = 1
  · rw [decide_eq_true q]
    show _ = 1
    omega
  · rw [decide_eq_false q]
    show _ = 0
    omega

theorem ones_bit : Nat.testBit 4294967295 31 = true := by decide

/-- Sub32. -/
theorem F106_spec {x y b : Int} (hx : 0 ≤ x) (hx1 : x < 4294967296) (hy : 0 ≤ y) (hy1 : y < 4294967296) (hb : 0 ≤ b) (hb1 : b ≤ 1) :
    F106 (x, y, b, ()) = some (((x - y - b) % 4294967296, if x - y - b < 0 then 1 else 0, ()), ()) := by
  obtain ⟨x, rfl⟩ := Int.eq_ofNat_of_zero_le hx
  obtain ⟨y, rfl⟩ := Int.eq_ofNat_of_zero_le hy
  rw [F106_eq]
  have e1 : IntKind.u32.wrap (IntKind.u32.wrap ((x : Int) - y) - b) = ((x : Int) - y - b) % 4294967296 := by
    rw [w32m, w32m]
    omega
  rw [e1]
  obtain ⟨d, hd⟩ := Int.eq_ofNat_of_zero_le (show 0 ≤ ((x : Int) - y - b) % 4294967296 by omega)
  have hd1 : d < 4294967296 := by omega
  rw [hd]
  have c1 : bitop .xor .u32 4294967295 (x : Int) = ((4294967295 ^^^ x : Nat) : Int) := xor32 (by decide) (by omega)
  have l1 := @Nat.xor_lt_two_pow 4294967295 x 32 (by decide) (by omega)
  have c2 : bitop .and .u32 ((4294967295 ^^^ x : Nat) : Int) (y : Int) = _ := and32 l1 (by omega)
  have l2 := @Nat.xor_lt_two_pow x y 32 (by omega) (by omega)
  have c3 : bitop .xor .u32 (x : Int) (y : Int) = ((x ^^^ y : Nat) : Int) := xor32 (by omega) (by omega)
  have c4 : bitop .xor .u32 4294967295 ((x ^^^ y : Nat) : Int) = ((4294967295 ^^^ (x ^^^ y) : Nat) : Int) := xor32 (by decide) l2
  have l3 := @Nat.xor_lt_two_pow 4294967295 (x ^^^ y) 32 (by decide) l2
  have c5 : bitop .and .u32 ((4294967295 ^^^ (x ^^^ y) : Nat) : Int) (d : Int) = _ := and32 l3 hd1
  have l4 : (4294967295 ^^^ x) &&& y < 4294967296 := Nat.lt_of_le_of_lt Nat.and_le_right (by omega)
  have l5 : (4294967295 ^^^ (x ^^^ y)) &&& d < 4294967296 := Nat.lt_of_le_of_lt Nat.and_le_right hd1
  have c6 : bitop .or .u32 (((4294967295 ^^^ x) &&& y : Nat) : Int) (((4294967295 ^^^ (x ^^^ y)) &&& d : Nat) : Int) = _ := or32 l4 l5
  have l6 := @Nat.or_lt_two_pow _ _ 32 l4 l5
  rw [c1, c2, c3, c4, c5, c6, fdiv_pow, top_bit l6]
  have e2 : (((((4294967295 ^^^ x) &&& y) ||| ((4294967295 ^^^ (x ^^^ y)) &&& d)).testBit 31).toNat : Int) = if (x : Int) - y - b < 0 then 1 else 0 := by
    rw [Nat.testBit_or, Nat.testBit_and, Nat.testBit_and, Nat.testBit_xor, Nat.testBit_xor, Nat.testBit_xor, ones_bit]
    have tx := top_bit (show x < 4294967296 by omega)
    have ty := top_bit (show y < 4294967296 by omega)
    have td := top_bit hd1
    generalize x.testBit 31 = X at *
    generalize y.testBit 31 = Y at *
    generalize d.testBit 31 = D at *
    cases X <;> cases Y <;> cases D <;> simp only [Bool.toNat_true, Bool.toNat_false] at tx ty td <;> simp <;> omega
  rw [e2]

/-- Add32. -/
theorem F107_spec {x y b : Int} (hx : 0 ≤ x) (hx1 : x < 4294967296) (hy : 0 ≤ y) (hy1 : y < 4294967296) (hb : 0 ≤ b) (hb1 : b ≤ 1) :
    F107 (x, y, b, ()) = some (((x + y + b) % 4294967296, (x + y + b) / 4294967296, ()), ()) := by
  rw [F107_eq]
  rw [w64 (n := x) (by omega) (by omega), w64 (n := y) (by omega) (by omega), w64 (n := b) (by omega) (by omega), w64 (n := x + y) (by omega) (by omega), w64 (n := x + y + b) (by omega) (by omega), w32m]
  have : (x + y + b).fdiv (2 ^ 32) = (x + y + b) / 4294967296 := by rw [Int.fdiv_eq_ediv_of_nonneg _ (by decide)]; rfl
  rw [this, w32 (by omega) (by omega)]

/-! ### Comparing -/
theorem val_split (l : List Int) (k : Nat) (h : k ≤ l.length) : val l = val (l.take k) + 4294967296 ^ k * val (l.drop k) := by
  have := val_append (l.take k) (l.drop k)
  rw [List.take_append_drop, List.length_take, Nat.min_eq_left h] at this
  exact this

theorem val_take_lt {l : List Int} (hw : Wf l) (k : Nat) (h : k ≤ l.length) : val (l.take k) < 4294967296 ^ k := by
  have := val_lt (hw.take k)
  rw [List.length_take, Nat.min_eq_left h] at this
  exact this

/-- Equal above a place, less there: less. -/
theorem lt_at {a b : List Int} (wa : Wf a) (wb : Wf b) {k : Nat} (ha : k < a.length) (hb : k < b.length) (he : a.drop (k + 1) = b.drop (k + 1)) (hlt : a.getD k 0 < b.getD k 0) : val a < val b := by
  rw [val_split a k (by omega), val_split b k (by omega), drop_at ha, drop_at hb, he]
  simp only [val]
  have h1 := val_take_lt wa k (by omega)
  have h2 := val_nonneg (wb.take k)
  have h3 := powB_pos k
  generalize (4294967296 : Int) ^ k = P at *
  generalize val (b.drop (k + 1)) = V at *
  generalize a.getD k 0 = A at *
  generalize b.getD k 0 = C at *
  have h4 : P * (A + 4294967296 * V) + P = P * (A + 1 + 4294967296 * V) := by grind
  have h5 : P * (A + 1 + 4294967296 * V) ≤ P * (C + 4294967296 * V) := Int.mul_le_mul_of_nonneg_left (by omega) (by omega)
  omega

theorem lim_shorter {a b : Nat} (h : (lim a).length < (lim b).length) : a < b := by
  rcases Nat.lt_or_ge a b with q | q
  · exact q
  · have := lim_length_mono q
    omega

/-- The sign of a difference. -/
def sg (a b : Nat) : Int := if a < b then -1 else if a = b then 0 else 1

theorem S62_spec {a b : List Int} (wa : Wf a) (wb : Wf b) (hl : a.length = b.length) (hs : a.length < 1000000000) :
    ∃ z, Lg62_6 ((a, b, (a.length : Int) - 1, ()), ()) = some z ∧ ((z = .inl ((-1, ()), ()) ∧ val a < val b) ∨ (z = .inl ((1, ()), ()) ∧ val b < val a) ∨ (z = .inr ((), ()) ∧ a = b)) := by
  obtain ⟨z, h1, hz⟩ := limL_ind (f := S62_6) (fun x => (x.1.2.2.1 + 1).toNat)
    (fun x => ∃ k : Nat, x = ((a, b, (k : Int) - 1, ()), ()) ∧ k ≤ a.length ∧ a.drop k = b.drop k)
    (fun z => (z = .inl ((-1, ()), ()) ∧ val a < val b) ∨ (z = .inl ((1, ()), ()) ∧ val b < val a) ∨ (z = .inr ((), ()) ∧ a = b)) (by
    rintro x ⟨k, rfl, hk, he⟩
    have e := S62_6_eq a b ((k : Int) - 1)
    rcases Nat.eq_zero_or_pos k with rfl | hp
    · right
      rw [List.drop_zero, List.drop_zero] at he
      exact ⟨_, e, .inr (.inr ⟨rfl, he⟩)⟩
    · obtain ⟨k, rfl⟩ : ∃ k', k = k' + 1 := ⟨k - 1, by omega⟩
      have e1 : ((k + 1 : Nat) : Int) - 1 = (k : Int) := by omega
      have p1 : (k : Int) ≥ 0 := by omega
      have p2 : (k : Int) < (a.length : Int) := by omega
      have p3 : (k : Int) < (b.length : Int) := by omega
      have e2 : IntKind.i64.wrap ((k : Int) - 1) = (k : Int) - 1 := wi (by omega) (by omega)
      rw [e1] at e ⊢
      simp only [decide_eq_true_eq, p1, p2, p3, if_true, Int.toNat_natCast, e2] at e
      by_cases h2 : a.getD k 0 < b.getD k 0
      · rw [if_pos h2] at e
        exact .inr ⟨_, e, .inl ⟨rfl, lt_at wa wb (by omega) (by omega) he h2⟩⟩
      · rw [if_neg h2] at e
        by_cases h3 : a.getD k 0 > b.getD k 0
        · rw [if_pos h3] at e
          exact .inr ⟨_, e, .inr (.inl ⟨rfl, lt_at wb wa (by omega) (by omega) he.symm h3⟩)⟩
        · rw [if_neg h3] at e
          refine .inl ⟨_, e, ⟨k, rfl, by omega, ?_⟩, by simp only; omega⟩
          rw [drop_at (l := a) (by omega), drop_at (l := b) (by omega), he, show a.getD k 0 = b.getD k 0 by omega]) ((a, b, (a.length : Int) - 1, ()), ()) ⟨a.length, rfl, Nat.le_refl _, by rw [List.drop_of_length_le (Nat.le_refl _), List.drop_of_length_le (by omega)]⟩
  exact ⟨z, h1, hz⟩

theorem L62_spec {a b : Nat} (ha : (lim a).length < 1000000000) (hb : (lim b).length < 1000000000) : L62 (lim a, lim b, ()) = some ((sg a b, ()), ()) := by
  show F62 Lg62_6 (lim a, lim b, ()) = _
  rw [F62_eq]
  unfold sg
  by_cases hl : (lim a).length = (lim b).length
  · have p : (!((lim a).length : Int) == ((lim b).length : Int)) = false := by rw [hl]; simp
    rw [p]
    obtain ⟨z, h1, hz⟩ := S62_spec (Wf_lim a) (Wf_lim b) hl ha
    rw [wi (by omega) (by omega), h1]
    rw [val_lim, val_lim] at hz
    simp only [Bool.false_eq_true, if_false, Option.bind_some]
    rcases hz with ⟨rfl, h⟩ | ⟨rfl, h⟩ | ⟨rfl, h⟩
    · rw [if_pos (by omega)]
      rfl
    · rw [if_neg (by omega), if_neg (by omega)]
      rfl
    · have := lim_inj h
      rw [if_neg (by omega), if_pos this]
      rfl
  · have p : (!((lim a).length : Int) == ((lim b).length : Int)) = true := by
      rw [Bool.not_eq_true', beq_eq_false_iff_ne]
      omega
    rw [if_pos p]
    by_cases h2 : (lim a).length < (lim b).length
    · have p2 : decide (((lim a).length : Int) < ((lim b).length : Int)) = true := by rw [decide_eq_true_eq]; omega
      rw [if_pos p2, if_pos (lim_shorter h2)]
    · have p2 : ¬ decide (((lim a).length : Int) < ((lim b).length : Int)) = true := by rw [decide_eq_true_eq]; omega
      have := lim_shorter (a := b) (b := a) (by omega)
      rw [if_neg p2, if_neg (by omega), if_neg (by omega)]

theorem L79_spec {a b : Nat} (ha : (lim a).length < 1000000000) (hb : (lim b).length < 1000000000) : ∃ c : Int, L79 (lim a, lim b, ()) = some ((c, ()), ()) ∧ (c < 0 ↔ a < b) ∧ (c = 0 ↔ a = b) := by
  have q : ∃ c : Int, F79 L108 LD115 Lg79_4 (lim a, lim b, ()) = some ((c, ()), ()) ∧ (c < 0 ↔ a < b) ∧ (c = 0 ↔ a = b) := by
    rw [F79_eq, L108_spec]
    by_cases hl : (lim a).length = (lim b).length
    · have p : (!((lim a).length : Int) == ((lim b).length : Int)) = false := by rw [hl]; simp
      rw [p]
      simp only [Bool.false_eq_true, if_false, Option.bind_some]
      rw [LD115_spec (by omega)]
      simp only [Option.bind_some]
      have h := foldR_desc (l := lim a) (f := S79_4) (fun k x => x = (((), (), ()), ((lim b, ()), (0, ()), ())) ∧ (lim a).drop k = (lim b).drop k) (fun z => (z = (((), ()), (-1, ()), ()) ∧ a < b) ∨ (z = (((), ()), (1, ()), ()) ∧ b < a)) (by
        rintro j x hj ⟨rfl, he⟩
        have e := S79_4_eq (j : Int) ((lim a).getD j 0) (lim b) 0
        have p1 : (0 : Int) ≤ (j : Int) := by omega
        have p2 : (j : Int) < ((lim b).length : Int) := by omega
        simp only [decide_eq_true_eq, p1, p2, if_true, Int.toNat_natCast] at e
        by_cases h1 : (lim a).getD j 0 = (lim b).getD j 0
        · left
          have p3 : (!(lim a).getD j 0 == (lim b).getD j 0) = false := by rw [h1]; simp
          rw [p3] at e
          refine ⟨_, e, rfl, ?_⟩
          rw [drop_at (l := lim a) hj, drop_at (l := lim b) (by omega), he, h1]
        · right
          have p3 : (!(lim a).getD j 0 == (lim b).getD j 0) = true := by
            rw [Bool.not_eq_true', beq_eq_false_iff_ne]
            exact h1
          rw [if_pos p3] at e
          by_cases h2 : (lim a).getD j 0 < (lim b).getD j 0
          · rw [if_pos h2] at e
            have h3 := lt_at (Wf_lim a) (Wf_lim b) hj (by omega) he h2
            rw [val_lim, val_lim] at h3
            exact ⟨_, e, .inl ⟨rfl, by omega⟩⟩
          · rw [if_neg h2] at e
            have h3 := lt_at (Wf_lim b) (Wf_lim a) (by omega) hj he.symm (by omega)
            rw [val_lim, val_lim] at h3
            exact ⟨_, e, .inr ⟨rfl, by omega⟩⟩) (lim a).length (((), (), ()), ((lim b, ()), (0, ()), ())) (Nat.le_refl _) ⟨rfl, by rw [List.drop_of_length_le (Nat.le_refl _), List.drop_of_length_le (by omega)]⟩
      rcases h with ⟨y, h1, rfl, h2⟩ | ⟨z, h1, hz⟩
      · have h1 : Lg79_4 (desc (lim a) (lim a).length) (((), (), ()), ((lim b, ()), (0, ()), ())) = _ := h1
        rw [h1]
        rw [List.drop_zero, List.drop_zero] at h2
        have := lim_inj h2
        exact ⟨0, rfl, by omega, by omega⟩
      · have h1 : Lg79_4 (desc (lim a) (lim a).length) (((), (), ()), ((lim b, ()), (0, ()), ())) = _ := h1
        rw [h1]
        rcases hz with ⟨rfl, hz⟩ | ⟨rfl, hz⟩
        · exact ⟨-1, rfl, by omega, by omega⟩
        · exact ⟨1, rfl, by omega, by omega⟩
    · have p : (!((lim a).length : Int) == ((lim b).length : Int)) = true := by
        rw [Bool.not_eq_true', beq_eq_false_iff_ne]
        omega
      rw [if_pos p, wi (by omega) (by omega)]
      refine ⟨_, rfl, ?_, ?_⟩
      · constructor
        · intro h
          exact lim_shorter (by omega)
        · intro h
          have := lim_length_mono (Nat.le_of_lt h)
          omega
      · constructor
        · intro h
          omega
        · rintro rfl
          omega
  exact q
end Go.Proofs.Rf
/- Differences of limbs, in both texts. -/
namespace Go.Proofs.Rf
open Go Go.RowKit

theorem sub_limb {P c x y V : Int} (t : Int) (h : t = if x - y - c < 0 then 1 else 0) : V + P * ((x - y - c) % 4294967296) - P * 4294967296 * t = V + P * x - P * y - P * c ∨ ¬ (0 ≤ x ∧ x < 4294967296 ∧ 0 ≤ y ∧ y < 4294967296 ∧ 0 ≤ c ∧ c ≤ 1) := by
  by_cases q : 0 ≤ x ∧ x < 4294967296 ∧ 0 ≤ y ∧ y < 4294967296 ∧ 0 ≤ c ∧ c ≤ 1
  · left
    have h2 : (x - y - c) % 4294967296 = x - y - c + 4294967296 * t := by
      rw [h]
      split <;> omega
    rw [h2]
    grind
  · exact .inr q

/-- One round of a difference: what its invariant says. -/
structure SubOK (a b : List Int) (i : Nat) (r : List Int) (c : Int) : Prop where
  wf : Wf r
  c0 : 0 ≤ c
  c1 : c ≤ 1
  v : val (r.take i) - 4294967296 ^ i * c = val (a.take i) - val (b.take i)

def bor (d : Int) : Int := if d < 0 then 1 else 0

theorem bor_range (d : Int) : 0 ≤ bor d ∧ bor d ≤ 1 := by
  unfold bor
  split <;> omega

theorem SubOK.step {a b r r' : List Int} {i : Nat} {c : Int} (h : SubOK a b i r c) (wa : Wf a) (wb : Wf b) (hr : r'.take i = r.take i) (hw : Wf r') (hd : r'.getD i 0 = (a.getD i 0 - b.getD i 0 - c) % 4294967296) : SubOK a b (i + 1) r' (bor (a.getD i 0 - b.getD i 0 - c)) := by
  refine ⟨hw, (bor_range _).1, (bor_range _).2, ?_⟩
  rw [val_take_succ, val_take_succ, val_take_succ, powB, hr, hd]
  have h1 := wa.getD i
  have h2 := wb.getD i
  have h3 := h.v
  have h4 := sub_limb (P := 4294967296 ^ i) (c := c) (x := a.getD i 0) (y := b.getD i 0) (V := val (r.take i)) (bor (a.getD i 0 - b.getD i 0 - c)) rfl
  rcases h4 with h4 | h4
  · grind
  · exact (h4 ⟨h1.1, h1.2, h2.1, h2.2, h.c0, h.c1⟩).elim

theorem SubOK.done {a b r : List Int} {c : Int} (h : SubOK a b a.length r c) (hr : r.length = a.length) (hb : b.length ≤ a.length) (hle : val b ≤ val a) : val r = val a - val b := by
  have h1 := h.v
  rw [val_take_all (by omega), val_take_all (Nat.le_refl _), val_take_all hb] at h1
  have h2 := val_lt h.wf
  rw [hr] at h2
  have h3 := h.c0
  have h4 := h.c1
  have h5 := powB_pos a.length
  generalize (4294967296 : Int) ^ a.length = P at *
  rcases (show c = 0 ∨ c = 1 by omega) with rfl | rfl
  · omega
  · omega

theorem lim_sub {a b : Nat} (h : b ≤ a) {v : Int} (hv : v = val (lim a) - val (lim b)) : lim v.toNat = lim (a - b) := by
  rw [val_lim, val_lim] at hv
  congr 1
  omega

theorem S102_step {a b r : List Int} {c : Int} {i : Nat} (wa : Wf a) (wb : Wf b) (hc : 0 ≤ c) (hc1 : c ≤ 1) (hr : r.length = i) (hi : i < a.length) (hs : a.length < 1000000000) :
    S102_4 ((a, b, (), c, (i : Int), ()), (r, ())) = some (.inl ((a, b, (), bor (a.getD i 0 - b.getD i 0 - c), ((i + 1 : Nat) : Int), ()), (r ++ [(a.getD i 0 - b.getD i 0 - c) % 4294967296], ()))) := by
  have xa := wa.getD i
  have xb := wb.getD i
  rw [S102_4_eq]
  simp only [Int.toNat_natCast, decide_eq_true_eq, Int.ofNat_lt]
  have gb : ¬ i < b.length → b.getD i 0 = 0 := fun h => getD_big (by omega)
  generalize a.getD i 0 = A at *
  generalize b.getD i 0 = B at *
  have e1 : IntKind.i64.wrap A = A := wi (by omega) (by omega)
  have e2 : IntKind.i64.wrap B = B := wi (by omega) (by omega)
  have e3 : IntKind.i64.wrap (A - c) = A - c := wi (by omega) (by omega)
  have e4 : IntKind.i64.wrap (A - c - B) = A - c - B := wi (by omega) (by omega)
  have e5 : IntKind.i64.wrap (A - c - B + 4294967296) = A - c - B + 4294967296 := wi (by omega) (by omega)
  have e5' : IntKind.i64.wrap (A - c + 4294967296) = A - c + 4294967296 := wi (by omega) (by omega)
  have e6 : IntKind.i64.wrap ((i : Int) + 1) = ((i + 1 : Nat) : Int) := by rw [wi (by omega) (by omega)]; omega
  have hn : (0 : Int) ≤ (i : Int) := by omega
  have hlen : ∀ x : Int, r.length + [x].length ≤ 4294967296 := fun x => by simp; omega
  have m1 : IntKind.u32.wrap (A - c - B) = (A - B - c) % 4294967296 := by rw [w32m]; omega
  have m2 : IntKind.u32.wrap (A - c - B + 4294967296) = (A - B - c) % 4294967296 := by rw [w32m]; omega
  unfold bor
  by_cases h2 : i < b.length
  · by_cases h3 : A - c - B < 0
    · have h4 : A - B - c < 0 := by omega
      simp only [hi, h2, if_true, hn, e1, e2, e3, e4, e5, e6, hlen, h3, h4, m2]
    · have h4 : ¬ A - B - c < 0 := by omega
      simp only [hi, h2, if_true, hn, e1, e2, e3, e4, e6, hlen, h3, h4, m1, if_false]
  · have hb := gb h2
    subst hb
    have m3 : IntKind.u32.wrap (A - c) = (A - 0 - c) % 4294967296 := by rw [w32m]; omega
    have m4 : IntKind.u32.wrap (A - c + 4294967296) = (A - 0 - c) % 4294967296 := by rw [w32m]; omega
    by_cases h3 : A - c < 0
    · have h4 : A - 0 - c < 0 := by omega
      simp only [hi, h2, if_true, if_false, hn, e1, e3, e5', e6, hlen, h3, h4, m4]
    · have h4 : ¬ A - 0 - c < 0 := by omega
      simp only [hi, h2, if_true, if_false, hn, e1, e3, e6, hlen, h3, h4, m3]

/-- The reference's difference. -/
theorem L102_spec {a b : Nat} (h : b ≤ a) (hs : (lim a).length < 1000000000) : L102 (lim a, lim b, ()) = some ((lim (a - b), ()), ()) := by
  have hb := lim_length_mono h
  obtain ⟨z, h1, r, rfl, c, hr, hok⟩ := limL_ind (f := S102_4) (fun x => (lim a).length - x.1.2.2.2.2.1.toNat)
    (fun x => ∃ (c : Int) (i : Nat) (r : List Int), x = ((lim a, lim b, (), c, (i : Int), ()), (r, ())) ∧ r.length = i ∧ i ≤ (lim a).length ∧ SubOK (lim a) (lim b) i r c)
    (fun z => ∃ r, z = (((), ()), (r, ())) ∧ ∃ c, r.length = (lim a).length ∧ SubOK (lim a) (lim b) (lim a).length r c) (by
    rintro x ⟨c, i, r, rfl, hr, hi, hok⟩
    by_cases hd : i < (lim a).length
    · left
      have hz := Int.emod_nonneg ((lim a).getD i 0 - (lim b).getD i 0 - c) (show (4294967296 : Int) ≠ 0 by decide)
      have hz' := Int.emod_lt_of_pos ((lim a).getD i 0 - (lim b).getD i 0 - c) (show (0 : Int) < 4294967296 by decide)
      refine ⟨_, S102_step (Wf_lim a) (Wf_lim b) hok.c0 hok.c1 hr hd hs, ⟨_, i + 1, _, rfl, by simp [hr], by omega, hok.step (Wf_lim a) (Wf_lim b) ?_ (hok.wf.append (Wf.cons hz hz' Wf.nil)) ?_⟩, by simp only [Int.toNat_natCast]; omega⟩
      · rw [List.take_append_of_le_length (by omega)]
      · rw [List.getD_eq_getElem?_getD, List.getElem?_append_right (by omega), hr, Nat.sub_self]
        rfl
    · right
      obtain rfl : i = (lim a).length := by omega
      refine ⟨_, ?_, r, rfl, c, hr, hok⟩
      rw [S102_4_eq, if_neg (by simp)]) ((lim a, lim b, (), 0, 0, ()), ([], ())) ⟨0, 0, _, rfl, rfl, by omega, Wf.nil, by omega, by omega, by simp [val]⟩
  show F102 L50 Lg102_4 (lim a, lim b, ()) = _
  rw [F102_eq]
  have h1 : Lg102_4 ((lim a, lim b, (), 0, 0, ()), [], ()) = _ := h1
  rw [h1]
  simp only [Option.bind_some]
  rw [L50_spec hok.wf (by omega)]
  simp only [Option.bind_some]
  rw [lim_sub h (hok.done hr hb (by rw [val_lim, val_lim]; omega))]
end Go.Proofs.Rf
/- Times and divided by a power of two, in the program. -/
namespace Go.Proofs.Rf
open Go Go.RowKit

/-- A limb of a number. -/
def lb (v i : Nat) : Nat := v / 2 ^ (32 * i) % 2 ^ 32

theorem lb_lt (v i : Nat) : lb v i < 4294967296 := Nat.mod_lt _ (by decide)
theorem lb_bit (v i j : Nat) : (lb v i).testBit j = (decide (j < 32) && v.testBit (32 * i + j)) := by
  unfold lb
  rw [Nat.testBit_mod_two_pow, Nat.testBit_div_two_pow, Nat.add_comm]

theorem limB (v i : Nat) : (lim v).getD i 0 = (lb v i : Int) := by
  rw [limG, B_pow]
  rfl

/-- The limbs of a number times a power of two. -/
theorem lb_up {v s i : Nat} (hs : 0 < s) (hs1 : s < 32) (hi : 0 < i) : lb (v * 2 ^ s) i = (lb v i * 2 ^ s % 2 ^ 32) ||| (lb v (i - 1) / 2 ^ (32 - s)) := by
  refine Nat.eq_of_testBit_eq fun j => ?_
  rw [lb_bit, Nat.testBit_or, Nat.testBit_mod_two_pow, Nat.testBit_div_two_pow, Nat.testBit_mul_two_pow, Nat.testBit_mul_two_pow, lb_bit, lb_bit]
  by_cases h1 : j < 32
  · by_cases h2 : s ≤ j
    · have p1 : s ≤ 32 * i + j := by omega
      have p2 : j - s < 32 := by omega
      have p3 : ¬ j + (32 - s) < 32 := by omega
      rw [show 32 * i + j - s = 32 * i + (j - s) by omega]
      simp [h1, h2, p1, p2, p3]
    · have p1 : s ≤ 32 * i + j := by omega
      have p3 : j + (32 - s) < 32 := by omega
      rw [show 32 * i + j - s = 32 * (i - 1) + (j + (32 - s)) by omega]
      simp [h1, h2, p1, p3]
  · have p3 : ¬ j + (32 - s) < 32 := by omega
    simp [h1, p3]

theorem lb_up0 {a s w : Nat} : lb (a * 2 ^ (32 * w) * 2 ^ s) w = lb (a * 2 ^ (32 * w)) w * 2 ^ s % 2 ^ 32 := by
  unfold lb
  rw [Nat.mul_assoc, Nat.mul_comm (2 ^ (32 * w)) (2 ^ s), ← Nat.mul_assoc, Nat.mul_div_cancel _ (Nat.two_pow_pos _), Nat.mul_div_cancel _ (Nat.two_pow_pos _), Nat.mod_mul_mod]

theorem lb_low {v k s i : Nat} (h : i < k) : lb (v * 2 ^ (32 * k) * 2 ^ s) i = 0 := by
  refine Nat.eq_of_testBit_eq fun j => ?_
  rw [lb_bit, Nat.mul_assoc, ← Nat.pow_add, Nat.testBit_mul_two_pow, Nat.zero_testBit]
  by_cases h1 : j < 32
  · have : ¬ 32 * k + s ≤ 32 * i + j := by omega
    simp [this]
  · simp [h1]

/-- The limbs of a number divided by a power of two. -/
theorem lb_down {v s w i : Nat} : (lb v (i + w + 1) * 2 ^ 32 ||| lb v (i + w)) / 2 ^ s % 2 ^ 32 = lb (v / 2 ^ (32 * w + s)) i ∨ ¬ s < 32 := by
  by_cases hs : s < 32
  · left
    refine Nat.eq_of_testBit_eq fun j => ?_
    rw [lb_bit, Nat.testBit_mod_two_pow, Nat.testBit_div_two_pow, Nat.testBit_or, Nat.testBit_mul_two_pow, lb_bit, lb_bit, Nat.testBit_div_two_pow]
    by_cases h1 : j < 32
    · by_cases h2 : 32 ≤ j + s
      · have p1 : j + s - 32 < 32 := by omega
        have p2 : ¬ j + s < 32 := by omega
        rw [show 32 * i + j + (32 * w + s) = 32 * (i + w + 1) + (j + s - 32) by omega]
        simp [h1, h2, p1, p2]
      · have p2 : j + s < 32 := by omega
        rw [show 32 * i + j + (32 * w + s) = 32 * (i + w) + (j + s) by omega]
        simp [h1, h2, p2]
    · simp [h1]
  · exact .inr hs

/-- A number is what its limbs say. -/
theorem val_of_limbs {r : List Int} {v : Nat} (hv : v < 4294967296 ^ r.length) (h : ∀ j, j < r.length → r.getD j 0 = (lb v j : Int)) : Wf r ∧ val r = (v : Int) := by
  constructor
  · intro x hx
    obtain ⟨i, hi, rfl⟩ := List.getElem_of_mem hx
    have := h i hi
    rw [List.getD_eq_getElem?_getD, List.getElem?_eq_getElem hi] at this
    have h2 := lb_lt v i
    have this : r[i] = (lb v i : Int) := this
    omega
  · have h1 : ∀ k, k ≤ r.length → val (r.take k) = ((v % 4294967296 ^ k : Nat) : Int) := by
      intro k
      induction k with
      | zero =>
        intro _
        simp [val, Nat.mod_one]
      | succ k ih =>
        intro hk
        rw [val_take_succ, ih (by omega), h k (by omega)]
        unfold lb
        rw [← B_pow, show (2 : Nat) ^ 32 = 4294967296 from rfl, ← castB, ← Int.natCast_mul, ← Int.natCast_add, Nat.pow_succ, Nat.mod_mul]
    have := h1 r.length (Nat.le_refl _)
    rw [List.take_length, Nat.mod_eq_of_lt hv] at this
    exact this

theorem lb_of_val {r : List Int} (hw : Wf r) {v : Nat} (hv : val r = (v : Int)) (j : Nat) : r.getD j 0 = (lb v j : Int) := by
  rw [getD_val hw hv, B_pow]
  rfl

/-- The row that is shifted. -/
def row0 (a : List Int) (w : Nat) : List Int := List.replicate w 0 ++ a ++ [0]

theorem row0_eq (a : List Int) (w : Nat) : List.take w (List.replicate (a.length + w + 1) 0) ++ List.take ((List.replicate (a.length + w + 1) (0 : Int)).length - w) a ++ List.drop (w + min a.length ((List.replicate (a.length + w + 1) (0 : Int)).length - w)) (List.replicate (a.length + w + 1) 0) = row0 a w := by
  unfold row0
  rw [List.length_replicate, List.take_replicate, List.drop_replicate, Nat.min_eq_left (by omega), Nat.min_eq_left (by omega), List.take_of_length_le (by omega), show a.length + w + 1 - (w + a.length) = 1 by omega]
  rfl

theorem row0_length (a : List Int) (w : Nat) : (row0 a w).length = a.length + w + 1 := by
  unfold row0
  simp
  omega

theorem row0_val (n w : Nat) : Wf (row0 (lim n) w) ∧ val (row0 (lim n) w) = ((n * 2 ^ (32 * w) : Nat) : Int) := by
  unfold row0
  refine ⟨((Wf.replicate w).append (Wf_lim n)).append (Wf.cons (by decide) (by decide) Wf.nil), ?_⟩
  rw [val_append, val_append, val_replicate, val_lim, List.length_replicate, ← castB, B_pow]
  simp only [val, Int.mul_zero, Int.add_zero, Int.zero_add]
  rw [← Int.natCast_mul, Nat.mul_comm]

theorem S76_step {N : Int} {s w k m : Nat} {r : List Int} {v : Nat} (hN : IntKind.i64.wrap (N.tdiv 32) = (w : Int)) (hs : 0 < s) (hs1 : s < 32) (hk : w ≤ k) (hkm : k < m) (hr : r.length = m) (hm : m < 1000000000)
    (hlow : ∀ j, j ≤ k → r.getD j 0 = (lb v j : Int)) (hv : ∃ a, v = a * 2 ^ (32 * w)) :
    S76_6 ((N, (), (s : Int), (k : Int), ()), (r, ())) = some (.inl ((N, (), (s : Int), (k : Int) - 1, ()), (r.set k ((lb (v * 2 ^ s) k : Nat) : Int), ()))) := by
  rw [S76_6_eq, hN]
  have p1 : (k : Int) ≥ (w : Int) := by omega
  have p2 : (0 : Int) ≤ (k : Int) := by omega
  have p3 : (k : Int) < (r.length : Int) := by omega
  have p4 : ¬ (s : Int) < 0 := by omega
  have e1 : IntKind.i64.wrap ((k : Int) - 1) = (k : Int) - 1 := wi (by omega) (by omega)
  have e2 : IntKind.i64.wrap (32 - (s : Int)) = ((32 - s : Nat) : Int) := by rw [wi (by omega) (by omega)]; omega
  have p5 : ¬ ((32 - s : Nat) : Int) < 0 := by omega
  have e3 : min s 32 = s := by omega
  have e4 : min (32 - s) 32 = 32 - s := by omega
  have l0 := lb_lt v k
  have e5 : IntKind.u32.wrap ((lb v k : Int) * 2 ^ s) = ((lb v k * 2 ^ s % 2 ^ 32 : Nat) : Int) := by
    have : (lb v k : Int) * 2 ^ s = ((lb v k * 2 ^ s : Nat) : Int) := by simp
    rw [this, w32m]
    rfl
  have l1 : lb v k * 2 ^ s % 2 ^ 32 < 4294967296 := Nat.mod_lt _ (by decide)
  by_cases h : (k : Int) > (w : Int)
  · have p6 : (0 : Int) ≤ (k : Int) - 1 := by omega
    have p7 : (k : Int) - 1 < (r.length : Int) := by omega
    have e6 : ((k : Int) - 1).toNat = k - 1 := by omega
    have l2 : lb v (k - 1) / 2 ^ (32 - s) < 4294967296 := Nat.lt_of_le_of_lt (Nat.div_le_self _ _) (lb_lt _ _)
    simp only [decide_eq_true_eq, p1, p2, p3, p4, p5, p6, p7, h, if_true, if_false, e1, e2, e6, Int.toNat_natCast, e3, e4, hlow k (Nat.le_refl _), hlow (k - 1) (by omega), e5, fdiv_pow]
    rw [or32 l1 l2, ← lb_up hs hs1 (by omega)]
  · obtain rfl : k = w := by omega
    obtain ⟨a, rfl⟩ := hv
    have e7 : bitop .or .u32 ((lb (a * 2 ^ (32 * k)) k * 2 ^ s % 2 ^ 32 : Nat) : Int) 0 = ((lb (a * 2 ^ (32 * k)) k * 2 ^ s % 2 ^ 32 : Nat) : Int) := by
      have := or32 l1 (show 0 < 4294967296 by decide)
      rw [Nat.or_zero] at this
      exact this
    simp only [decide_eq_true_eq, p1, p2, p3, p4, h, if_true, if_false, e1, Int.toNat_natCast, e3, hlow k (Nat.le_refl _), e5, e7]
    rw [← lb_up0]

/-- up. -/
theorem L76_spec {a n : Nat} (ha : (lim a).length < 1000000) (hn : n < 1000000) : L76 (lim a, (n : Int), ()) = some ((lim (a * 2 ^ n), ()), ()) := by
  have hw := wi_div (j := n) (by omega)
  have e1 : IntKind.i64.wrap (((lim a).length : Int) + ((n / 32 : Nat) : Int)) = (((lim a).length + n / 32 : Nat) : Int) := by rw [wi (by omega) (by omega)]; omega
  have e2 : IntKind.i64.wrap ((((lim a).length + n / 32 : Nat) : Int) + 1) = (((lim a).length + n / 32 + 1 : Nat) : Int) := by rw [wi (by omega) (by omega)]; omega
  have e3 := wi_mod n
  have p1 : (0 : Int) ≤ (((lim a).length + n / 32 + 1 : Nat) : Int) := by omega
  have p2 : (((lim a).length + n / 32 + 1 : Nat) : Int) ≤ ((4294967296 : Nat) : Int) := by omega
  have p3 : (0 : Int) ≤ ((n / 32 : Nat) : Int) := by omega
  have p4 : ((n / 32 : Nat) : Int) ≤ ((List.replicate ((lim a).length + n / 32 + 1) (0 : Int)).length : Int) := by rw [List.length_replicate]; omega
  show F76 L96 Lg76_6 (lim a, (n : Int), ()) = _
  rw [F76_eq]
  simp only [hw, e1, e2, e3, Int.toNat_natCast, p1, p2, p3, p4, Int.le_refl, if_true, row0_eq]
  have hrow := row0_val a (n / 32)
  have hlen := row0_length (lim a) (n / 32)
  have hn2 : n = 32 * (n / 32) + n % 32 := by omega
  by_cases hs : n % 32 = 0
  · have p5 : ¬ ((n % 32 : Nat) : Int) > 0 := by omega
    have hv : a * 2 ^ (32 * (n / 32)) = a * 2 ^ n := by
      congr 2
      omega
    rw [if_neg (by rw [decide_eq_true_eq]; exact p5), L96_spec hrow.1 (by omega), hrow.2, hv]
    rfl
  · have p5 : ((n % 32 : Nat) : Int) > 0 := by omega
    rw [if_pos (by rw [decide_eq_true_eq]; exact p5), hlen]
    have e4 : IntKind.i64.wrap ((((lim a).length + n / 32 + 1 : Nat) : Int) - 1) = (((lim a).length + n / 32 : Nat) : Int) := by rw [wi (by omega) (by omega)]; omega
    rw [e4]
    have hlt : a * 2 ^ (32 * (n / 32)) * 2 ^ (n % 32) < 4294967296 ^ ((lim a).length + n / 32 + 1) := by
      have h1 := lim_lt a
      rw [B_pow] at h1 ⊢
      have h2 : 2 ^ (n % 32) < 2 ^ 32 := Nat.pow_lt_pow_right (by decide) (by omega)
      have h3 : 2 ^ (32 * ((lim a).length + n / 32 + 1)) = 2 ^ (32 * (lim a).length) * 2 ^ (32 * (n / 32)) * 2 ^ 32 := by
        rw [← Nat.pow_add, ← Nat.pow_add]
        congr 1
        omega
      rw [h3]
      exact Nat.mul_lt_mul_of_lt_of_lt ((Nat.mul_lt_mul_right (Nat.two_pow_pos _)).2 h1) h2
    obtain ⟨z, h1, r, rfl, hr, hdig⟩ := limL_ind (f := S76_6) (fun x => (x.1.2.2.2.1 + 1).toNat)
      (fun x => ∃ (k : Nat) (r : List Int), x = (((n : Int), (), ((n % 32 : Nat) : Int), (k : Int) - 1, ()), (r, ())) ∧ n / 32 ≤ k ∧ k ≤ (lim a).length + n / 32 + 1 ∧ r.length = (lim a).length + n / 32 + 1 ∧ (∀ j, j < k → r.getD j 0 = (lb (a * 2 ^ (32 * (n / 32))) j : Int)) ∧ ∀ j, k ≤ j → j < r.length → r.getD j 0 = (lb (a * 2 ^ (32 * (n / 32)) * 2 ^ (n % 32)) j : Int))
      (fun z => ∃ r, z = (((), ()), (r, ())) ∧ r.length = (lim a).length + n / 32 + 1 ∧ ∀ j, j < r.length → r.getD j 0 = (lb (a * 2 ^ (32 * (n / 32)) * 2 ^ (n % 32)) j : Int)) (by
      rintro x ⟨k, r, rfl, hk, hk1, hr, hlo, hhi⟩
      by_cases hd : n / 32 < k
      · left
        obtain ⟨k, rfl⟩ : ∃ k', k = k' + 1 := ⟨k - 1, by omega⟩
        have hst := S76_step (N := (n : Int)) (s := n % 32) (w := n / 32) (k := k) (m := (lim a).length + n / 32 + 1) (r := r) (v := a * 2 ^ (32 * (n / 32))) hw (by omega) (by omega) (by omega) (by omega) hr (by omega) (fun j hj => hlo j (by omega)) ⟨a, rfl⟩
        rw [show (k : Int) = ((k + 1 : Nat) : Int) - 1 by omega] at hst
        refine ⟨_, hst, ⟨k, _, by rw [show ((k + 1 : Nat) : Int) - 1 - 1 = (k : Int) - 1 by omega], by omega, by omega, by rw [List.length_set]; exact hr, fun j hj => ?_, fun j hj hj1 => ?_⟩, by simp only; omega⟩
        · rw [getD_set, if_neg (by omega)]
          exact hlo j (by omega)
        · rw [List.length_set] at hj1
          rw [getD_set]
          by_cases hjk : k = j
          · subst hjk
            rw [if_pos ⟨rfl, hj1⟩]
          · rw [if_neg (by omega)]
            exact hhi j (by omega) hj1
      · right
        obtain rfl : k = n / 32 := by omega
        refine ⟨_, ?_, r, rfl, hr, fun j hj => ?_⟩
        · rw [S76_6_eq, hw, if_neg (by rw [decide_eq_true_eq]; omega)]
        · by_cases hj2 : n / 32 ≤ j
          · exact hhi j hj2 hj
          · have h4 := hlo j (by omega)
            rw [h4, lb_low (by omega)]
            have := lb_low (v := a) (k := n / 32) (s := 0) (i := j) (by omega)
            rw [Nat.pow_zero, Nat.mul_one] at this
            rw [this]) (((n : Int), (), ((n % 32 : Nat) : Int), (((lim a).length + n / 32 : Nat) : Int), ()), (row0 (lim a) (n / 32), ())) ⟨(lim a).length + n / 32 + 1, _, by rw [show (((lim a).length + n / 32 + 1 : Nat) : Int) - 1 = (((lim a).length + n / 32 : Nat) : Int) by omega], by omega, Nat.le_refl _, hlen, fun j _ => lb_of_val hrow.1 hrow.2 j, fun j h1 h2 => by omega⟩
    have h1 : Lg76_6 (((n : Int), (), ((n % 32 : Nat) : Int), (((lim a).length + n / 32 : Nat) : Int), ()), (row0 (lim a) (n / 32), ())) = _ := h1
    rw [h1]
    have hf := val_of_limbs (r := r) (by rw [hr]; exact hlt) hdig
    simp only [Option.bind_some]
    rw [L96_spec hf.1 (by omega), hf.2]
    simp only [Option.bind_some, Int.toNat_natCast]
    rw [Nat.mul_assoc, ← Nat.pow_add, ← hn2]
end Go.Proofs.Rf
/- Divided by a power of two, in the program; copies. -/
namespace Go.Proofs.Rf
open Go Go.RowKit

theorem val_ne {l : List Int} (hw : Wf l) : val l ≠ 0 ↔ ∃ i, i < l.length ∧ l.getD i 0 ≠ 0 := by
  constructor
  · intro h
    rcases Classical.em (∃ i, i < l.length ∧ l.getD i 0 ≠ 0) with q | q
    · exact q
    · refine (h (val_zero fun k hk => ?_)).elim
      rcases Classical.em (l.getD k 0 = 0) with q2 | q2
      · exact q2
      · exact (q ⟨k, hk, q2⟩).elim
  · rintro ⟨i, hi, hne⟩ h0
    have h1 := val_split l i (by omega)
    rw [drop_at hi] at h1
    simp only [val] at h1
    have h2 := val_nonneg (hw.take i)
    have h3 : 0 ≤ val (l.drop (i + 1)) := val_nonneg fun x hx => hw x (List.mem_of_mem_drop hx)
    have h4 := hw.getD i
    have h5 := powB_pos i
    have h6 : 0 < 4294967296 ^ i * (l.getD i 0 + 4294967296 * val (l.drop (i + 1))) := Int.mul_pos h5 (by omega)
    omega

theorem L114_spec {l : List Int} (hw : Wf l) (hl : l.length < 1000000000) : ∃ k : Int, L114 (l, (), ()) = some ((k, ()), ()) ∧ (0 ≤ k ↔ val l ≠ 0) := by
  obtain ⟨z, h1, hz⟩ := limL_ind (f := S114_2 L104) (fun x => l.length - x.1.2.2.2.1.toNat)
    (fun x => ∃ i : Nat, x = ((l, (), (l.length : Int), (i : Int), ()), ()) ∧ ∀ j, j < i → l.getD j 0 = 0)
    (fun z => (∃ i : Nat, z = .inl (((i : Int), ()), ()) ∧ val l ≠ 0) ∨ (z = .inr ((), ()) ∧ val l = 0)) (by
    rintro x ⟨i, rfl, hi⟩
    have e := S114_2_eq L104 l (l.length : Int) (i : Int)
    by_cases h0 : i < l.length
    · have p0 : (0 : Int) ≤ (i : Int) := by omega
      have p1 : (i : Int) < (l.length : Int) := by omega
      have e6 : IntKind.i64.wrap ((i : Int) + 1) = ((i + 1 : Nat) : Int) := by rw [wi (by omega) (by omega)]; omega
      simp only [decide_eq_true_eq, p0, p1, if_true, Int.toNat_natCast, e6] at e
      rw [show L104 (l.getD i 0, ()) = _ from F104_eq _] at e
      simp only [Option.bind_some] at e
      by_cases h2 : l.getD i 0 = 0
      · have p2 : ¬ (!l.getD i 0 == 0) = true := by rw [h2]; decide
        rw [if_neg p2] at e
        refine .inl ⟨_, e, ⟨i + 1, rfl, fun j hj => ?_⟩, by simp only [Int.toNat_natCast]; omega⟩
        by_cases hj' : j < i
        · exact hi j hj'
        · obtain rfl : j = i := by omega
          exact h2
      · have p2 : (!l.getD i 0 == 0) = true := by
          rw [Bool.not_eq_true', beq_eq_false_iff_ne]
          exact h2
        rw [if_pos p2] at e
        exact .inr ⟨_, e, .inl ⟨i, rfl, (val_ne hw).2 ⟨i, h0, h2⟩⟩⟩
    · right
      have p1 : ¬ (i : Int) < (l.length : Int) := by omega
      simp only [decide_eq_true_eq, p1, if_false] at e
      exact ⟨_, e, .inr ⟨rfl, val_zero fun k hk => hi k (by omega)⟩⟩) ((l, (), (l.length : Int), 0, ()), ()) ⟨0, rfl, by intro j hj; omega⟩
  have h1 : Lg114_2 ((l, (), (l.length : Int), 0, ()), ()) = some z := h1
  have hF : L114 (l, (), ()) = _ := F114_eq Lg114_2 l
  rw [h1] at hF
  rcases hz with ⟨i, rfl, hv⟩ | ⟨rfl, hv⟩
  · exact ⟨(i : Int), hF, fun _ => hv, fun _ => by omega⟩
  · exact ⟨-1, hF, fun h => by omega, fun h => (h hv).elim⟩

theorem L103_spec {l : List Int} (hw : Wf l) (hl : l.length < 1000000000) : L103 (l, (), ()) = some ((decide (val l ≠ 0), ()), ()) := by
  obtain ⟨k, h1, h2⟩ := L114_spec hw hl
  have hF : L103 (l, (), ()) = _ := F103_eq L114 l
  rw [h1] at hF
  rw [hF]
  simp only [Option.bind_some, ge_iff_le]
  rw [decide_eq_decide.2 h2]

theorem val_take_mod (n w : Nat) (h : w ≤ (lim n).length) : val ((lim n).take w) = ((n % 2 ^ (32 * w) : Nat) : Int) := by
  have h1 := val_split (lim n) w h
  have h2 := val_take_lt (Wf_lim n) w h
  have h3 := val_nonneg ((Wf_lim n).take w)
  rw [val_lim] at h1
  rw [← B_pow]
  have h4 := Int.ediv_emod_unique (a := (n : Int)) (q := val ((lim n).drop w)) (r := val ((lim n).take w)) (powB_pos w)
  have h5 := h4.2 ⟨h1.symm, h3, h2⟩
  rw [← h5.2, ← castB]
  rfl

theorem S77_step {a n i m : Nat} {lost : Bool} {r : List Int} (hm : m = (lim a).length - n / 32) (hn : n < 1000000) (ha : (lim a).length < 1000000) (hi : i < m) (hr : r.length = m) :
    S77_6 L71 ((lim a, (n : Int), lost, (), (m : Int), (i : Int), ()), (r, ())) = some (.inl ((lim a, (n : Int), lost, (), (m : Int), ((i + 1 : Nat) : Int), ()), (r.set i ((lb (a / 2 ^ n) i : Nat) : Int), ()))) := by
  rw [S77_6_eq, wi_div (by omega)]
  have e1 : IntKind.i64.wrap ((i : Int) + ((n / 32 : Nat) : Int)) = ((i + n / 32 : Nat) : Int) := by rw [wi (by omega) (by omega)]; omega
  have e2 : IntKind.i64.wrap (((i + n / 32 : Nat) : Int) + 1) = ((i + n / 32 + 1 : Nat) : Int) := by rw [wi (by omega) (by omega)]; omega
  have e3 := wi_mod n
  have e4 : IntKind.i64.wrap ((i : Int) + 1) = ((i + 1 : Nat) : Int) := by rw [wi (by omega) (by omega)]; omega
  have p1 : (i : Int) < (m : Int) := by omega
  have p2 : (0 : Int) ≤ ((i + n / 32 : Nat) : Int) := by omega
  have p3 : ((i + n / 32 : Nat) : Int) < ((lim a).length : Int) := by omega
  have p4 : ¬ ((n % 32 : Nat) : Int) < 0 := by omega
  have p5 : (0 : Int) ≤ (i : Int) := by omega
  have p6 : (i : Int) < (r.length : Int) := by omega
  have p7 : min (n % 32) 64 = n % 32 := by omega
  have l1 := lb_lt a (i + n / 32 + 1)
  have l2 := lb_lt a (i + n / 32)
  have q : L71 (lim a, ((i + n / 32 + 1 : Nat) : Int), ()) = _ := F71_spec (a := lim a) (i + n / 32 + 1)
  rw [e1, e2, q]
  simp only [Option.bind_some, decide_eq_true_eq, p1, p2, p3, p4, p5, p6, p7, e3, e4, if_true, if_false, Int.toNat_natCast, limB]
  have e5 : IntKind.u64.wrap (IntKind.u64.wrap (lb a (i + n / 32 + 1) : Int) * 2 ^ 32) = ((lb a (i + n / 32 + 1) * 2 ^ 32 : Nat) : Int) := by
    rw [w64 (n := (lb a (i + n / 32 + 1) : Int)) (by omega) (by omega)]
    have : (lb a (i + n / 32 + 1) : Int) * 2 ^ 32 = ((lb a (i + n / 32 + 1) * 2 ^ 32 : Nat) : Int) := by simp
    rw [this]
    exact w64 (by omega) (by omega)
  rw [e5, w64 (n := (lb a (i + n / 32) : Int)) (by omega) (by omega), or64 (by omega) (by omega), fdiv_pow, w32m]
  have hd := lb_down (v := a) (s := n % 32) (w := n / 32) (i := i)
  rcases hd with hd | hd
  · rw [show 32 * (n / 32) + n % 32 = n by omega] at hd
    rw [← hd]
    rfl
  · omega

theorem Lg77_6_spec {a n : Nat} {lost : Bool} (hn : n < 1000000) (ha : (lim a).length < 1000000) (h : n / 32 < (lim a).length) :
    ∃ r, Lg77_6 ((lim a, (n : Int), lost, (), (((lim a).length - n / 32 : Nat) : Int), 0, ()), (List.replicate ((lim a).length - n / 32) 0, ())) = some ((lost, (), ()), (r, ())) ∧ Wf r ∧ val r = ((a / 2 ^ n : Nat) : Int) ∧ r.length < 1000000 := by
  obtain ⟨m, hm⟩ : ∃ m, m = (lim a).length - n / 32 := ⟨_, rfl⟩
  obtain ⟨z, h1, r, rfl, hr, hdig⟩ := limL_ind (f := S77_6 L71) (fun x => m - x.1.2.2.2.2.2.1.toNat)
    (fun x => ∃ (i : Nat) (r : List Int), x = ((lim a, (n : Int), lost, (), (m : Int), (i : Int), ()), (r, ())) ∧ r.length = m ∧ i ≤ m ∧ ∀ j, j < i → r.getD j 0 = (lb (a / 2 ^ n) j : Int))
    (fun z => ∃ r, z = ((lost, (), ()), (r, ())) ∧ r.length = m ∧ ∀ j, j < m → r.getD j 0 = (lb (a / 2 ^ n) j : Int)) (by
    rintro x ⟨i, r, rfl, hr, hi, hd⟩
    by_cases hlt : i < m
    · left
      refine ⟨_, S77_step hm hn ha hlt hr, ⟨i + 1, _, rfl, by rw [List.length_set]; exact hr, by omega, fun j hj => ?_⟩, by simp only [Int.toNat_natCast]; omega⟩
      rw [getD_set]
      by_cases hji : i = j
      · subst hji
        rw [if_pos ⟨rfl, by omega⟩]
      · rw [if_neg (by omega)]
        exact hd j (by omega)
    · right
      obtain rfl : i = m := by omega
      refine ⟨_, ?_, r, rfl, hr, hd⟩
      rw [S77_6_eq, if_neg (by simp)]) ((lim a, (n : Int), lost, (), (m : Int), 0, ()), (List.replicate m 0, ())) ⟨0, _, rfl, by simp, by omega, by intro j hj; omega⟩
  have hlt : a / 2 ^ n < 4294967296 ^ r.length := by
    have h2 := lim_lt a
    rw [B_pow] at h2 ⊢
    refine (Nat.div_lt_iff_lt_mul (Nat.two_pow_pos n)).2 (Nat.lt_of_lt_of_le h2 ?_)
    rw [← Nat.pow_add]
    exact Nat.pow_le_pow_right (by decide) (by omega)
  have hf := val_of_limbs hlt (by rw [hr]; exact hdig)
  refine ⟨r, ?_, hf.1, hf.2, by omega⟩
  rw [← hm]
  exact h1

/-- down. -/
theorem L77_spec {a n : Nat} (ha : (lim a).length < 1000000) (hn : n < 1000000) : L77 (lim a, (n : Int), ()) = some ((lim (a / 2 ^ n), decide (a % 2 ^ n ≠ 0), ()), ()) := by
  have hw := wi_div (j := n) (by omega)
  show F77 L96 L103 Lg77_6 (lim a, (n : Int), ()) = _
  rw [F77_eq]
  by_cases hge : (lim a).length ≤ n / 32
  · have hlt : a < 2 ^ n := by
      have h2 := lim_lt a
      rw [B_pow] at h2
      exact Nat.lt_of_lt_of_le h2 (Nat.pow_le_pow_right (by decide) (by omega))
    have p1 : ((n / 32 : Nat) : Int) ≥ ((lim a).length : Int) := by omega
    rw [hw, if_pos (by rw [decide_eq_true_eq]; exact p1), Nat.div_eq_of_lt hlt, Nat.mod_eq_of_lt hlt, lim_zero]
    congr 4
    rw [decide_eq_decide]
    constructor
    · rintro h rfl
      rw [lim_zero] at h
      simp at h
    · intro h
      rcases Nat.eq_zero_or_pos (lim a).length with q | q
      · exact (h (lim_eq_nil.1 (List.eq_nil_of_length_eq_zero q))).elim
      · omega
  · have hlt : n / 32 < (lim a).length := by omega
    have p1 : ¬ ((n / 32 : Nat) : Int) ≥ ((lim a).length : Int) := by omega
    have p2 : (0 : Int) ≤ ((n / 32 : Nat) : Int) := by omega
    have p3 : ((n / 32 : Nat) : Int) ≤ ((lim a).length : Int) := by omega
    have p3' : ((n / 32 : Nat) : Int) < ((lim a).length : Int) := by omega
    have e1 : IntKind.i64.wrap (((lim a).length : Int) - ((n / 32 : Nat) : Int)) = (((lim a).length - n / 32 : Nat) : Int) := by rw [wi (by omega) (by omega)]; omega
    have p4 : (0 : Int) ≤ (((lim a).length - n / 32 : Nat) : Int) := by omega
    have p5 : (((lim a).length - n / 32 : Nat) : Int) ≤ ((4294967296 : Nat) : Int) := by omega
    have e2 := wi_mod n
    have e3 : IntKind.i64.wrap (32 - ((n % 32 : Nat) : Int)) = ((32 - n % 32 : Nat) : Int) := by rw [wi (by omega) (by omega)]; omega
    have p6 : ¬ ((32 - n % 32 : Nat) : Int) < 0 := by omega
    have e4 : min (32 - n % 32) 32 = 32 - n % 32 := by omega
    simp only [hw, e1, e2, e3, e4, decide_eq_true_eq, p1, p2, p3, p3', p4, p5, p6, if_true, if_false, Int.toNat_natCast, Int.le_refl, List.length_replicate, limB]
    rw [L103_spec ((Wf_lim a).take _) (by rw [List.length_take]; omega), val_take_mod a _ (by omega)]
    simp only [Option.bind_some]
    have hsplit : a % 2 ^ n = a % 2 ^ (32 * (n / 32)) + 2 ^ (32 * (n / 32)) * (a / 2 ^ (32 * (n / 32)) % 2 ^ (n % 32)) := by
      rw [← Nat.mod_mul, ← Nat.pow_add, show 32 * (n / 32) + n % 32 = n by omega]
    have hpp := Nat.two_pow_pos (32 * (n / 32))
    by_cases hc : a % 2 ^ (32 * (n / 32)) = 0
    · have q1 : ¬ decide (((a % 2 ^ (32 * (n / 32)) : Nat) : Int) ≠ 0) = true := by
        rw [decide_eq_true_eq]
        omega
      rw [if_neg q1]
      have l0 := lb_lt a (n / 32)
      have f1 : IntKind.u32.wrap (IntKind.u32.wrap ((lb a (n / 32) : Int) * 2 ^ (32 - n % 32)) * 2 ^ 0) = ((lb a (n / 32) * 2 ^ (32 - n % 32) % 2 ^ 32 : Nat) : Int) := by
        have f2 : (lb a (n / 32) : Int) * 2 ^ (32 - n % 32) = ((lb a (n / 32) * 2 ^ (32 - n % 32) : Nat) : Int) := by simp
        rw [f2, w32m, w32m, Int.pow_zero, Int.mul_one]
        omega
      have f3 : lb a (n / 32) * 2 ^ (32 - n % 32) % 2 ^ 32 = (a / 2 ^ (32 * (n / 32)) % 2 ^ (n % 32)) * 2 ^ (32 - n % 32) := by
        have f4 : (2 : Nat) ^ 32 = 2 ^ (n % 32) * 2 ^ (32 - n % 32) := by
          rw [← Nat.pow_add]
          congr 1
          omega
        unfold lb
        rw [f4, Nat.mul_mod_mul_right, Nat.mod_mul_right_mod]
      have hq := Nat.two_pow_pos (32 - n % 32)
      rw [f1, f3]
      by_cases hz : a / 2 ^ (32 * (n / 32)) % 2 ^ (n % 32) = 0
      · rw [hz, Nat.zero_mul]
        have q2 : ¬ (!((0 : Nat) : Int) == 0) = true := by decide
        rw [if_neg q2]
        obtain ⟨r, h1, h2, h3, h4⟩ := Lg77_6_spec (lost := false) hn ha hlt
        rw [h1]
        simp only [Option.bind_some]
        rw [L96_spec h2 (by omega), h3, hsplit, hc, hz]
        rfl
      · have hz2 : ¬ a / 2 ^ (32 * (n / 32)) % 2 ^ (n % 32) * 2 ^ (32 - n % 32) = 0 := by
          intro hh
          rcases Nat.mul_eq_zero.1 hh with hh | hh
          · exact hz hh
          · omega
        have q2 : (!((a / 2 ^ (32 * (n / 32)) % 2 ^ (n % 32) * 2 ^ (32 - n % 32) : Nat) : Int) == 0) = true := by
          rw [Bool.not_eq_true', beq_eq_false_iff_ne]
          omega
        have q3 : n % 32 ≠ 0 := by
          intro q3
          rw [q3, Nat.pow_zero, Nat.mod_one] at hz
          exact hz rfl
        have q4 : decide (((n % 32 : Nat) : Int) > 0) = true := by
          rw [decide_eq_true_eq]
          omega
        rw [if_pos q2, q4]
        obtain ⟨r, h1, h2, h3, h4⟩ := Lg77_6_spec (lost := true) hn ha hlt
        rw [h1]
        simp only [Option.bind_some]
        rw [L96_spec h2 (by omega), h3]
        have q5 : decide (a % 2 ^ n ≠ 0) = true := by
          rw [decide_eq_true_eq, hsplit]
          have := Nat.mul_pos hpp (Nat.pos_of_ne_zero hz)
          omega
        rw [q5]
        rfl
    · have q1 : decide (((a % 2 ^ (32 * (n / 32)) : Nat) : Int) ≠ 0) = true := by
        rw [decide_eq_true_eq]
        omega
      rw [if_pos q1]
      obtain ⟨r, h1, h2, h3, h4⟩ := Lg77_6_spec (lost := true) hn ha hlt
      rw [h1]
      simp only [Option.bind_some]
      rw [L96_spec h2 (by omega), h3]
      have q5 : decide (a % 2 ^ n ≠ 0) = true := by
        rw [decide_eq_true_eq, hsplit]
        omega
      rw [q5]
      rfl
end Go.Proofs.Rf
/- The guess of a long division's digit. -/
namespace Go.Proofs.Rf
open Go Go.RowKit

/-- A window of the dividend and the divisor, by their highest limbs. -/
structure Win (U V P x y z V1 V2 low vlow : Int) : Prop where
  hU : U = low + P * (z + 4294967296 * y + 18446744073709551616 * x)
  hV : V = vlow + P * (V2 + 4294967296 * V1)
  l0 : 0 ≤ low
  l1 : low < P
  v0 : 0 ≤ vlow
  v1 : vlow < P
  x0 : 0 ≤ x
  y0 : 0 ≤ y
  y1 : y < 4294967296
  z0 : 0 ≤ z
  z1 : z < 4294967296
  a0 : 2147483648 ≤ V1
  a1 : V1 < 4294967296
  b0 : 0 ≤ V2
  b1 : V2 < 4294967296
  lt : U < 4294967296 * V

section
variable {U V P x y z V1 V2 low vlow : Int}

theorem Win.P_pos (h : Win U V P x y z V1 V2 low vlow) : 0 < P := by
  have := h.l0
  have := h.l1
  omega

theorem Win.V_pos (h : Win U V P x y z V1 V2 low vlow) : 0 < V := by
  have h1 := h.P_pos
  have h2 := h.a0
  have h3 := h.b0
  have h4 : 0 < P * (V2 + 4294967296 * V1) := Int.mul_pos h1 (by omega)
  have h5 := h.hV
  have h6 := h.v0
  omega

theorem Win.U_lt (h : Win U V P x y z V1 V2 low vlow) : U < P * (z + 4294967296 * y + 18446744073709551616 * x + 1) := by
  rw [h.hU]
  have := h.l1
  grind

theorem Win.V_ge (h : Win U V P x y z V1 V2 low vlow) : P * (V2 + 4294967296 * V1) ≤ V := by
  rw [h.hV]
  have := h.v0
  omega

theorem Win.V_lt (h : Win U V P x y z V1 V2 low vlow) : V < P * (V2 + 1 + 4294967296 * V1) := by
  rw [h.hV]
  have := h.v1
  grind

/-- The highest limb is not above the divisor's. -/
theorem Win.x_le (h : Win U V P x y z V1 V2 low vlow) : x ≤ V1 := by
  rcases Int.lt_or_le V1 x with q | q
  · exfalso
    have h1 := h.P_pos
    have h2 := h.V_lt
    have h3 := h.lt
    have h4 := h.hU
    have h5 := h.l0
    have h6 : P * (18446744073709551616 * (V1 + 1)) ≤ P * (18446744073709551616 * x) := Int.mul_le_mul_of_nonneg_left (by omega) (by omega)
    have h7 : 0 ≤ P * (z + 4294967296 * y) := Int.mul_nonneg (by omega) (by have := h.y0; have := h.z0; omega)
    have h8 : P * (V2 + 1) ≤ P * 4294967296 := Int.mul_le_mul_of_nonneg_left (by have := h.b1; omega) (by omega)
    grind
  · exact q

theorem Win.init (h : Win U V P x y z V1 V2 low vlow) : U < ((x * 4294967296 + y) / V1 + 1) * V := by
  have h1 := h.P_pos
  have h2 : x * 4294967296 + y < ((x * 4294967296 + y) / V1 + 1) * V1 := Int.lt_ediv_add_one_mul_self _ (by have := h.a0; omega)
  have hg : 0 ≤ (x * 4294967296 + y) / V1 := Int.ediv_nonneg (by have := h.x0; have := h.y0; omega) (by have := h.a0; omega)
  generalize (x * 4294967296 + y) / V1 = g at *
  have h3 := h.U_lt
  have h4 : (g + 1) * (P * (V2 + 4294967296 * V1)) ≤ (g + 1) * V := Int.mul_le_mul_of_nonneg_left h.V_ge (by omega)
  have h5 : 0 ≤ (g + 1) * (P * V2) := Int.mul_nonneg (by omega) (Int.mul_nonneg (by omega) h.b0)
  have h6 : P * 4294967296 * (x * 4294967296 + y + 1) ≤ P * 4294967296 * ((g + 1) * V1) := Int.mul_le_mul_of_nonneg_left (by omega) (by omega)
  have h7 : P * (z + 1) ≤ P * 4294967296 := Int.mul_le_mul_of_nonneg_left (by have := h.z1; omega) (by omega)
  grind

theorem Win.dec (h : Win U V P x y z V1 V2 low vlow) {g r : Int} (hg : 0 ≤ g) (hr : g * V1 + r = x * 4294967296 + y) (hd : g * V2 > r * 4294967296 + z) : U < g * V := by
  have h1 := h.P_pos
  have h2 := h.U_lt
  have h3 : g * (P * (V2 + 4294967296 * V1)) ≤ g * V := Int.mul_le_mul_of_nonneg_left h.V_ge hg
  have h4 : P * (z + 4294967296 * y + 18446744073709551616 * x + 1) ≤ P * (g * V2 + 4294967296 * (g * V1)) := Int.mul_le_mul_of_nonneg_left (by omega) (by omega)
  grind

theorem Win.fin (h : Win U V P x y z V1 V2 low vlow) {g r : Int} (hg : 0 ≤ g) (hg1 : g < 4294967296) (hr : g * V1 + r = x * 4294967296 + y) (hd : g * V2 ≤ r * 4294967296 + z) : (g - 1) * V ≤ U := by
  have h1 := h.P_pos
  have hU := h.hU
  have hl := h.l0
  rcases (show g = 0 ∨ 1 ≤ g by omega) with rfl | hg2
  · have := h.V_pos
    have h5 : 0 ≤ P * (z + 4294967296 * y + 18446744073709551616 * x) := Int.mul_nonneg (by omega) (by have := h.x0; have := h.y0; have := h.z0; omega)
    omega
  · have h3 : (g - 1) * V ≤ (g - 1) * (P * (V2 + 1 + 4294967296 * V1)) := Int.mul_le_mul_of_nonneg_left (by have := h.V_lt; omega) (by omega)
    have h4 : P * (g * V2 + 4294967296 * (g * V1)) ≤ P * (z + 4294967296 * y + 18446744073709551616 * x) := Int.mul_le_mul_of_nonneg_left (by omega) (by omega)
    have h5 : P * (g - 1) ≤ P * (4294967296 * V1) := Int.mul_le_mul_of_nonneg_left (by have := h.a0; omega) (by omega)
    have h6 : 0 ≤ P * V2 := Int.mul_nonneg (by omega) h.b0
    grind
end

theorem or_limbs {c x : Int} (hc : 0 ≤ c) (hc1 : c < 4294967296) (hx : 0 ≤ x) (hx1 : x < 4294967296) : bitop .or .u64 (IntKind.u64.wrap (c * 2 ^ 32)) x = c * 4294967296 + x := by
  have e2 : IntKind.u64.wrap (c * 2 ^ 32) = c * 4294967296 := w64 (by omega) (by omega)
  rw [e2]
  obtain ⟨c', rfl⟩ := Int.eq_ofNat_of_zero_le hc
  obtain ⟨x', rfl⟩ := Int.eq_ofNat_of_zero_le hx
  have := or64 (x := c' * 4294967296) (y := x') (by omega) (by omega)
  rw [or_parts (k := 32) (by omega)] at this
  simp only [Int.natCast_mul, Int.natCast_add] at this
  exact this

/-- What the guess is when its loop ends. -/
structure Guessed (U V g : Int) : Prop where
  g0 : 0 ≤ g
  g1 : g < 4294967296
  lo : (g - 1) * V ≤ U
  hi : U < (g + 1) * V

theorem S78_18_spec {U V P x y z V1 V2 low vlow : Int} (h : Win U V P x y z V1 V2 low vlow) {sh : Int} {v u q : List Int} {n j : Nat} (hv1 : v.getD (n - 1) 0 = V1) (hv2 : v.getD (n - 2) 0 = V2) (hz : u.getD (j + n - 2) 0 = z)
    (hn : 2 ≤ n) (hnv : v.length = n) (hj : j + n < u.length) (hu : u.length < 1000000000) :
    ∃ g, Guessed U V g ∧ Lg78_18 ((sh, v, (), (n : Int), (), (j : Int), (x * 4294967296 + y) / V1, (x * 4294967296 + y) % V1, ()), (u, q, ())) = some ((sh, v, (), (n : Int), (), (j : Int), g, ()), (u, q, ())) := by
  have ha0 := h.a0
  have ha1 := h.a1
  have hb0 := h.b0
  have hb1 := h.b1
  have hz0 := h.z0
  have hz1 := h.z1
  have hx := h.x_le
  have hx0 := h.x0
  have hy0 := h.y0
  have hy1 := h.y1
  have m1 : IntKind.i64.wrap ((n : Int) - 1) = ((n - 1 : Nat) : Int) := by rw [wi (by omega) (by omega)]; omega
  have m2 : IntKind.i64.wrap ((n : Int) - 2) = ((n - 2 : Nat) : Int) := by rw [wi (by omega) (by omega)]; omega
  have m3 : IntKind.i64.wrap ((j : Int) + (n : Int)) = ((j + n : Nat) : Int) := by rw [wi (by omega) (by omega)]; omega
  have m4 : IntKind.i64.wrap (((j + n : Nat) : Int) - 2) = ((j + n - 2 : Nat) : Int) := by rw [wi (by omega) (by omega)]; omega
  have p1 : (0 : Int) ≤ ((n - 1 : Nat) : Int) := by omega
  have p2 : ((n - 1 : Nat) : Int) < (v.length : Int) := by omega
  have p3 : (0 : Int) ≤ ((n - 2 : Nat) : Int) := by omega
  have p4 : ((n - 2 : Nat) : Int) < (v.length : Int) := by omega
  have p5 : (0 : Int) ≤ ((j + n - 2 : Nat) : Int) := by omega
  have p6 : ((j + n - 2 : Nat) : Int) < (u.length : Int) := by omega
  have e1 : IntKind.u64.wrap V1 = V1 := w64 (by omega) (by omega)
  have e2 : IntKind.u64.wrap V2 = V2 := w64 (by omega) (by omega)
  have e3 : IntKind.u64.wrap z = z := w64 (by omega) (by omega)
  have tq := Int.mul_ediv_add_emod (x * 4294967296 + y) V1
  have tr0 := Int.emod_nonneg (x * 4294967296 + y) (show V1 ≠ 0 by omega)
  have tr1 := Int.emod_lt_of_pos (x * 4294967296 + y) (show 0 < V1 by omega)
  have tg0 : 0 ≤ (x * 4294967296 + y) / V1 := Int.ediv_nonneg (by omega) (by omega)
  have hinit := h.init
  have tgb : (x * 4294967296 + y) / V1 ≤ 4294967297 := by
    rcases Int.lt_or_le 4294967297 ((x * 4294967296 + y) / V1) with q | q
    · exfalso
      have h6 : V1 * 4294967298 ≤ V1 * ((x * 4294967296 + y) / V1) := Int.mul_le_mul_of_nonneg_left (by omega) (by omega)
      omega
    · exact q
  generalize hG : (x * 4294967296 + y) / V1 = G at *
  generalize hR : (x * 4294967296 + y) % V1 = R at *
  obtain ⟨w, h1, g, hg, hw⟩ := limL_ind (f := S78_18) (fun s => s.1.2.2.2.2.2.2.1.toNat)
    (fun s => ∃ g r : Int, s = ((sh, v, (), (n : Int), (), (j : Int), g, r, ()), (u, q, ())) ∧ 0 ≤ g ∧ g ≤ 4294967297 ∧ 0 ≤ r ∧ r < 4294967296 ∧ g * V1 + r = x * 4294967296 + y ∧ U < (g + 1) * V)
    (fun w => ∃ g, Guessed U V g ∧ w = ((sh, v, (), (n : Int), (), (j : Int), g, ()), (u, q, ()))) (by
    rintro s ⟨g, r, rfl, hg, hgb, hr, hr1, ht, hu1⟩
    have e := S78_18_eq sh v (n : Int) (j : Int) g r u q
    have e4 : IntKind.u64.wrap (r + V1) = r + V1 := w64 (by omega) (by omega)
    have e5 : 1 ≤ g → IntKind.u64.wrap (g - 1) = g - 1 := fun q => w64 (by omega) (by omega)
    have e6 := or_limbs hr hr1 hz0 hz1
    simp only [m1, m2, m3, m4, p1, p2, p3, p4, p5, p6, if_true, Int.toNat_natCast, hv1, hv2, hz, e1, e2, e3, e4, e6, decide_eq_true_eq] at e
    have next : 1 ≤ g → U < g * V → (g - 1) * V1 + (r + V1) = x * 4294967296 + y ∧ U < (g - 1 + 1) * V := by
      intro h7 h8
      refine ⟨by grind, by rw [show g - 1 + 1 = g by omega]; exact h8⟩
    have brk : 1 ≤ g → U < g * V → g ≤ 4294967296 → r + V1 ≥ 4294967296 → Guessed U V (g - 1) := by
      intro h7 h8 h9 h10
      obtain ⟨h11, h12⟩ := next h7 h8
      refine ⟨by omega, by omega, h.fin (by omega) (by omega) h11 ?_, h12⟩
      have h13 : (g - 1) * V2 ≤ 4294967296 * 4294967296 := Int.mul_le_mul (by omega) (by omega) hb0 (by decide)
      omega
    by_cases c1 : g ≥ 4294967296
    · have h8 : U < g * V := by
        have h9 := h.lt
        have h10 : 4294967296 * V ≤ g * V := Int.mul_le_mul_of_nonneg_right c1 (Int.le_of_lt h.V_pos)
        omega
      rw [if_pos c1] at e
      by_cases c2 : r + V1 ≥ 4294967296
      · right
        rw [if_pos c2, e5 (by omega)] at e
        refine ⟨_, e, g - 1, brk (by omega) h8 ?_ c2, rfl⟩
        rcases (show g = 4294967297 ∨ g ≤ 4294967296 by omega) with q | q
        · exfalso
          subst q
          omega
        · exact q
      · left
        rw [if_neg c2, e5 (by omega)] at e
        obtain ⟨h11, h12⟩ := next (by omega) h8
        exact ⟨_, e, ⟨g - 1, r + V1, rfl, by omega, by omega, by omega, by omega, h11, h12⟩, by simp only; omega⟩
    · rw [if_neg c1] at e
      have e7 : IntKind.u64.wrap (g * V2) = g * V2 := by
        have h13 : g * V2 ≤ 4294967296 * V2 := Int.mul_le_mul_of_nonneg_right (by omega) hb0
        exact w64 (Int.mul_nonneg hg hb0) (by omega)
      rw [e7] at e
      by_cases c3 : g * V2 > r * 4294967296 + z
      · have h7 : 1 ≤ g := by
          rcases (show g = 0 ∨ 1 ≤ g by omega) with q | q
          · subst q
            omega
          · exact q
        have h8 := h.dec hg ht c3
        rw [if_pos c3] at e
        by_cases c2 : r + V1 ≥ 4294967296
        · right
          rw [if_pos c2, e5 h7] at e
          exact ⟨_, e, g - 1, brk h7 h8 (by omega) c2, rfl⟩
        · left
          rw [if_neg c2, e5 h7] at e
          obtain ⟨h11, h12⟩ := next h7 h8
          exact ⟨_, e, ⟨g - 1, r + V1, rfl, by omega, by omega, by omega, by omega, h11, h12⟩, by simp only; omega⟩
      · right
        rw [if_neg c3] at e
        exact ⟨_, e, g, ⟨hg, by omega, h.fin hg (by omega) ht (by omega), hu1⟩, rfl⟩) ((sh, v, (), (n : Int), (), (j : Int), G, R, ()), (u, q, ())) ⟨G, R, rfl, tg0, tgb, tr0, by omega, by rw [Int.mul_comm]; exact tq, hinit⟩
  rw [hw] at h1
  exact ⟨g, hg, h1⟩
end Go.Proofs.Rf
/- A long division's digit: times, difference, back. -/
namespace Go.Proofs.Rf
open Go Go.RowKit

/-- What is kept while limbs are changed from j on. -/
structure Kp (u r : List Int) (j i : Nat) : Prop where
  wf : Wf r
  len : r.length = u.length
  lo : r.take j = u.take j
  hi : ∀ k, j + i ≤ k → r.getD k 0 = u.getD k 0

theorem Kp.refl {u : List Int} (hw : Wf u) (j : Nat) : Kp u u j 0 := ⟨hw, rfl, rfl, fun _ _ => rfl⟩

theorem Kp.set {u r : List Int} {j i : Nat} (h : Kp u r j i) {v : Int} (h0 : 0 ≤ v) (h1 : v < 4294967296) : Kp u (r.set (j + i) v) j (i + 1) := by
  refine ⟨h.wf.set _ h0 h1, by rw [List.length_set]; exact h.len, by rw [take_set_at (by omega)]; exact h.lo, fun k hk => ?_⟩
  rw [getD_set, if_neg (by omega)]
  exact h.hi k (by omega)

theorem powB_add (i j : Nat) : (4294967296 : Int) ^ (i + j) = 4294967296 ^ i * 4294967296 ^ j := Int.pow_add ..

theorem S78_24_step {sh g c b : Int} {v u r q : List Int} {n j i : Nat} (wv : Wf v) (hk : Kp u r j i) (hg : 0 ≤ g) (hg1 : g < 4294967296) (hc : 0 ≤ c) (hc1 : c < 4294967296) (hb : 0 ≤ b) (hb1 : b ≤ 1) (hnv : v.length = n) (hi : i < n) (hj : j + n < u.length) (hu : u.length < 1000000000) :
    S78_24 L106 ((sh, v, (), (n : Int), (), (j : Int), g, c, b, v, (v.length : Int), (i : Int), ()), (r, q, ())) =
      some (.inl ((sh, v, (), (n : Int), (), (j : Int), g, (g * v.getD i 0 + c) / 4294967296, bor (r.getD (j + i) 0 - (g * v.getD i 0 + c) % 4294967296 - b), v, (v.length : Int), ((i + 1 : Nat) : Int), ()), (r.set (j + i) ((r.getD (j + i) 0 - (g * v.getD i 0 + c) % 4294967296 - b) % 4294967296), q, ()))) := by
  have xv := wv.getD i
  have xr := hk.wf.getD (j + i)
  have hl := hk.len
  rw [S78_24_eq]
  have m1 : IntKind.i64.wrap ((i : Int) + (j : Int)) = ((j + i : Nat) : Int) := by rw [wi (by omega) (by omega)]; omega
  have m2 : IntKind.i64.wrap ((i : Int) + 1) = ((i + 1 : Nat) : Int) := by rw [wi (by omega) (by omega)]; omega
  have p1 : (i : Int) < (v.length : Int) := by omega
  have p2 : (0 : Int) ≤ (i : Int) := by omega
  have p3 : (0 : Int) ≤ ((j + i : Nat) : Int) := by omega
  have p4 : ((j + i : Nat) : Int) < (r.length : Int) := by omega
  have e1 : IntKind.u64.wrap (v.getD i 0) = v.getD i 0 := w64 (by omega) (by omega)
  have b0 : 0 ≤ g * v.getD i 0 := Int.mul_nonneg hg xv.1
  have b1 : g * v.getD i 0 ≤ 4294967295 * 4294967295 := Int.mul_le_mul (by omega) (by omega) xv.1 (by decide)
  have e2 : IntKind.u64.wrap (g * v.getD i 0) = g * v.getD i 0 := w64 b0 (by omega)
  have e3 : IntKind.u64.wrap (g * v.getD i 0 + c) = g * v.getD i 0 + c := w64 (by omega) (by omega)
  simp only [decide_eq_true_eq, m1, m2, p1, p2, p3, p4, if_true, Int.toNat_natCast, e1, e2, e3, w32m]
  have q2 : L106 (r.getD (j + i) 0, (g * v.getD i 0 + c) % 4294967296, b, ()) = _ := F106_spec xr.1 xr.2 (by omega) (by omega) hb hb1
  rw [q2]
  have f1 : (g * v.getD i 0 + c).fdiv (2 ^ 32) = (g * v.getD i 0 + c) / 4294967296 := by rw [Int.fdiv_eq_ediv_of_nonneg _ (by decide)]; rfl
  simp only [Option.bind_some, f1]
  rfl

/-- Times the guess, taken away. -/
theorem Lg78_24_spec {sh g : Int} {v u q : List Int} {n j : Nat} (wv : Wf v) (wu : Wf u) (hg : 0 ≤ g) (hg1 : g < 4294967296) (hnv : v.length = n) (hj : j + n < u.length) (hu : u.length < 1000000000) :
    ∃ (c b : Int) (r : List Int), Lg78_24 ((sh, v, (), (n : Int), (), (j : Int), g, 0, 0, v, (v.length : Int), 0, ()), (u, q, ())) = some ((sh, v, (), (n : Int), (), (j : Int), g, c, b, ()), (r, q, ())) ∧
      Kp u r j n ∧ 0 ≤ c ∧ c < 4294967296 ∧ 0 ≤ b ∧ b ≤ 1 ∧ val r = val u - 4294967296 ^ j * (g * val v) + 4294967296 ^ (j + n) * (c + b) := by
  obtain ⟨z, h1, c, b, r, rfl, h2⟩ := limL_ind (f := S78_24 L106) (fun x => n - x.1.2.2.2.2.2.2.2.2.2.2.2.1.toNat)
    (fun x => ∃ (c b : Int) (r : List Int) (i : Nat), x = ((sh, v, (), (n : Int), (), (j : Int), g, c, b, v, (v.length : Int), (i : Int), ()), (r, q, ())) ∧ i ≤ n ∧ Kp u r j i ∧ 0 ≤ c ∧ c < 4294967296 ∧ 0 ≤ b ∧ b ≤ 1 ∧ val r = val u - 4294967296 ^ j * (g * val (v.take i)) + 4294967296 ^ (j + i) * (c + b))
    (fun z => ∃ (c b : Int) (r : List Int), z = ((sh, v, (), (n : Int), (), (j : Int), g, c, b, ()), (r, q, ())) ∧ Kp u r j n ∧ 0 ≤ c ∧ c < 4294967296 ∧ 0 ≤ b ∧ b ≤ 1 ∧ val r = val u - 4294967296 ^ j * (g * val v) + 4294967296 ^ (j + n) * (c + b)) (by
    rintro x ⟨c, b, r, i, rfl, hi, hk, hc, hc1, hb, hb1, hv⟩
    by_cases hd : i < n
    · left
      have xv := wv.getD i
      have b0 : 0 ≤ g * v.getD i 0 := Int.mul_nonneg hg xv.1
      have b1 : g * v.getD i 0 ≤ 4294967295 * 4294967295 := Int.mul_le_mul (by omega) (by omega) xv.1 (by decide)
      have hst := S78_24_step (sh := sh) (q := q) wv hk hg hg1 hc hc1 hb hb1 hnv hd hj hu
      have xr := hk.wf.getD (j + i)
      obtain ⟨p, hp⟩ : ∃ p, p = g * v.getD i 0 + c := ⟨_, rfl⟩
      rw [← hp] at hst
      obtain ⟨d, hdd⟩ : ∃ d, d = r.getD (j + i) 0 - p % 4294967296 - b := ⟨_, rfl⟩
      rw [← hdd] at hst
      have hz := Int.emod_nonneg d (show (4294967296 : Int) ≠ 0 by decide)
      have hz' := Int.emod_lt_of_pos d (show (0 : Int) < 4294967296 by decide)
      refine ⟨_, hst, ⟨p / 4294967296, bor d, _, i + 1, rfl, by omega, hk.set hz hz', by omega, by omega, (bor_range _).1, (bor_range _).2, ?_⟩, by simp only [Int.toNat_natCast]; omega⟩
      have hlen := hk.len
      rw [val_set (by omega), hv, val_take_succ, show j + (i + 1) = j + i + 1 by omega, powB, powB_add]
      have hpm : p % 4294967296 = p - 4294967296 * (p / 4294967296) := by omega
      have hdm : d % 4294967296 = d + 4294967296 * bor d := by
        unfold bor
        split <;> omega
      rw [hdm]
      generalize bor d = bd at *
      generalize p / 4294967296 = pc' at *
      generalize r.getD (j + i) 0 = R at *
      generalize v.getD i 0 = Vi at *
      generalize (4294967296 : Int) ^ j = A at *
      generalize (4294967296 : Int) ^ i = C at *
      generalize val (v.take i) = T at *
      generalize val u = W at *
      rw [hpm] at hdd
      subst hdd
      have hp2 : pc' * 4294967296 = pc' * 4294967296 := rfl
      subst hp
      grind
    · right
      obtain rfl : i = n := by omega
      refine ⟨_, ?_, c, b, r, rfl, hk, hc, hc1, hb, hb1, ?_⟩
      · rw [S78_24_eq, if_neg (by rw [hnv]; simp)]
      · rw [val_take_all (by omega)] at hv
        exact hv) ((sh, v, (), (n : Int), (), (j : Int), g, 0, 0, v, (v.length : Int), 0, ()), (u, q, ())) ⟨0, 0, u, 0, rfl, by omega, Kp.refl wu j, by decide, by decide, by decide, by decide, by simp [val]⟩
  exact ⟨c, b, r, h1, h2⟩

theorem S78_35_step {sh g c : Int} {v u r q : List Int} {n j i : Nat} (wv : Wf v) (hk : Kp u r j i) (hc : 0 ≤ c) (hc1 : c ≤ 1) (hnv : v.length = n) (hi : i < n) (hj : j + n < u.length) (hu : u.length < 1000000000) :
    S78_35 L107 ((sh, v, (), (n : Int), (), (j : Int), g, c, v, (v.length : Int), (i : Int), ()), (r, q, ())) =
      some (.inl ((sh, v, (), (n : Int), (), (j : Int), g, (r.getD (j + i) 0 + v.getD i 0 + c) / 4294967296, v, (v.length : Int), ((i + 1 : Nat) : Int), ()), (r.set (j + i) ((r.getD (j + i) 0 + v.getD i 0 + c) % 4294967296), q, ()))) := by
  have xv := wv.getD i
  have xr := hk.wf.getD (j + i)
  have hl := hk.len
  rw [S78_35_eq]
  have m1 : IntKind.i64.wrap ((i : Int) + (j : Int)) = ((j + i : Nat) : Int) := by rw [wi (by omega) (by omega)]; omega
  have m2 : IntKind.i64.wrap ((i : Int) + 1) = ((i + 1 : Nat) : Int) := by rw [wi (by omega) (by omega)]; omega
  have p1 : (i : Int) < (v.length : Int) := by omega
  have p2 : (0 : Int) ≤ (i : Int) := by omega
  have p3 : (0 : Int) ≤ ((j + i : Nat) : Int) := by omega
  have p4 : ((j + i : Nat) : Int) < (r.length : Int) := by omega
  simp only [decide_eq_true_eq, m1, m2, p1, p2, p3, p4, if_true, Int.toNat_natCast]
  have q2 : L107 (r.getD (j + i) 0, v.getD i 0, c, ()) = _ := F107_spec xr.1 xr.2 xv.1 xv.2 hc hc1
  rw [q2]
  simp only [Option.bind_some]

/-- The divisor, added back. -/
theorem Lg78_35_spec {sh g : Int} {v u q : List Int} {n j : Nat} (wv : Wf v) (wu : Wf u) (hnv : v.length = n) (hj : j + n < u.length) (hu : u.length < 1000000000) :
    ∃ (c : Int) (r : List Int), Lg78_35 ((sh, v, (), (n : Int), (), (j : Int), g, 0, v, (v.length : Int), 0, ()), (u, q, ())) = some ((sh, v, (), (n : Int), (), (j : Int), g, c, ()), (r, q, ())) ∧
      Kp u r j n ∧ 0 ≤ c ∧ c ≤ 1 ∧ val r = val u + 4294967296 ^ j * val v - 4294967296 ^ (j + n) * c := by
  obtain ⟨z, h1, c, r, rfl, h2⟩ := limL_ind (f := S78_35 L107) (fun x => n - x.1.2.2.2.2.2.2.2.2.2.2.1.toNat)
    (fun x => ∃ (c : Int) (r : List Int) (i : Nat), x = ((sh, v, (), (n : Int), (), (j : Int), g, c, v, (v.length : Int), (i : Int), ()), (r, q, ())) ∧ i ≤ n ∧ Kp u r j i ∧ 0 ≤ c ∧ c ≤ 1 ∧ val r = val u + 4294967296 ^ j * val (v.take i) - 4294967296 ^ (j + i) * c)
    (fun z => ∃ (c : Int) (r : List Int), z = ((sh, v, (), (n : Int), (), (j : Int), g, c, ()), (r, q, ())) ∧ Kp u r j n ∧ 0 ≤ c ∧ c ≤ 1 ∧ val r = val u + 4294967296 ^ j * val v - 4294967296 ^ (j + n) * c) (by
    rintro x ⟨c, r, i, rfl, hi, hk, hc, hc1, hv⟩
    by_cases hd : i < n
    · left
      have xv := wv.getD i
      have xr := hk.wf.getD (j + i)
      have hst := S78_35_step (sh := sh) (g := g) (q := q) wv hk hc hc1 hnv hd hj hu
      obtain ⟨p, hp⟩ : ∃ p, p = r.getD (j + i) 0 + v.getD i 0 + c := ⟨_, rfl⟩
      rw [← hp] at hst
      have hz := Int.emod_nonneg p (show (4294967296 : Int) ≠ 0 by decide)
      have hz' := Int.emod_lt_of_pos p (show (0 : Int) < 4294967296 by decide)
      refine ⟨_, hst, ⟨p / 4294967296, _, i + 1, rfl, by omega, hk.set hz hz', by omega, by omega, ?_⟩, by simp only [Int.toNat_natCast]; omega⟩
      have hlen := hk.len
      rw [val_set (by omega), hv, val_take_succ, show j + (i + 1) = j + i + 1 by omega, powB, powB_add]
      have hpm : p % 4294967296 = p - 4294967296 * (p / 4294967296) := by omega
      rw [hpm]
      generalize p / 4294967296 = pc' at *
      generalize r.getD (j + i) 0 = R at *
      generalize v.getD i 0 = Vi at *
      generalize (4294967296 : Int) ^ j = A at *
      generalize (4294967296 : Int) ^ i = C at *
      generalize val (v.take i) = T at *
      generalize val u = W at *
      subst hp
      grind
    · right
      obtain rfl : i = n := by omega
      refine ⟨_, ?_, c, r, rfl, hk, hc, hc1, ?_⟩
      · rw [S78_35_eq, if_neg (by rw [hnv]; simp)]
      · rw [val_take_all (by omega)] at hv
        exact hv) ((sh, v, (), (n : Int), (), (j : Int), g, 0, v, (v.length : Int), 0, ()), (u, q, ())) ⟨0, u, 0, rfl, by omega, Kp.refl wu j, by decide, by decide, by simp [val]⟩
  exact ⟨c, r, h1, h2⟩
end Go.Proofs.Rf
/- A long division's round. -/
namespace Go.Proofs.Rf
open Go Go.RowKit

theorem drop_val {u r : List Int} {j : Nat} (hlo : r.take j = u.take j) (hr : j ≤ r.length) (hu : j ≤ u.length) : 4294967296 ^ j * val (r.drop j) = 4294967296 ^ j * val (u.drop j) + val r - val u := by
  have h1 := val_split r j hr
  have h2 := val_split u j hu
  rw [hlo] at h1
  omega

theorem drop_ext {u r : List Int} {m : Nat} (hl : r.length = u.length) (h : ∀ k, m ≤ k → r.getD k 0 = u.getD k 0) : r.drop m = u.drop m := by
  refine getD_ext (by simp [hl]) fun k hk => ?_
  rw [List.getD_eq_getElem?_getD, List.getD_eq_getElem?_getD, List.getElem?_drop, List.getElem?_drop]
  have := h (m + k) (by omega)
  rw [List.getD_eq_getElem?_getD, List.getD_eq_getElem?_getD] at this
  exact this

theorem Wf.drop {l : List Int} (h : Wf l) (n : Nat) : Wf (l.drop n) := fun x hx => h x (List.mem_of_mem_drop hx)

/-- What lies above the window is nothing. -/
theorem above_zero {u : List Int} {V : Int} {j n : Nat} (wu : Wf u) (hj : j + n < u.length) (hV : V < 4294967296 ^ n) (h : val (u.drop (j + 1)) < V) : val (u.drop (j + n + 1)) = 0 := by
  have h1 := val_split (u.drop (j + 1)) n (by rw [List.length_drop]; omega)
  rw [List.drop_drop, show j + 1 + n = j + n + 1 by omega] at h1
  have h2 := val_nonneg ((wu.drop (j + 1)).take n)
  have h3 := val_nonneg (wu.drop (j + n + 1))
  rcases (show val (u.drop (j + n + 1)) = 0 ∨ 1 ≤ val (u.drop (j + n + 1)) by omega) with q | q
  · exact q
  · exfalso
    have h4 : (4294967296 : Int) ^ n * 1 ≤ 4294967296 ^ n * val (u.drop (j + n + 1)) := Int.mul_le_mul_of_nonneg_left q (Int.le_of_lt (powB_pos n))
    omega

theorem window_lt {r : List Int} {j n : Nat} (wr : Wf r) (hj : j + n < r.length) (h : val (r.drop (j + n + 1)) = 0) : val (r.drop j) < 4294967296 ^ (n + 1) := by
  have h1 := val_split (r.drop j) (n + 1) (by rw [List.length_drop]; omega)
  rw [List.drop_drop, show j + (n + 1) = j + n + 1 by omega, h, Int.mul_zero, Int.add_zero] at h1
  rw [h1]
  exact val_take_lt (wr.drop j) (n + 1) (by rw [List.length_drop]; omega)

theorem mkWin {u v : List Int} {j n : Nat} (wu : Wf u) (wv : Wf v) (hn : 2 ≤ n) (hnv : v.length = n) (hj : j + n < u.length) (htop : 2147483648 ≤ v.getD (n - 1) 0) (hlt : val (u.drop (j + 1)) < val v) :
    Win (val (u.drop j)) (val v) (4294967296 ^ (n - 2)) (u.getD (j + n) 0) (u.getD (j + n - 1) 0) (u.getD (j + n - 2) 0) (v.getD (n - 1) 0) (v.getD (n - 2) 0) (val ((u.drop j).take (n - 2))) (val (v.take (n - 2))) := by
  have hVn : val v < 4294967296 ^ n := by
    have := val_lt wv
    rw [hnv] at this
    exact this
  have h0 := above_zero wu hj hVn hlt
  have h1 := val_split (u.drop j) (n - 2) (by rw [List.length_drop]; omega)
  rw [List.drop_drop, drop_at (show j + (n - 2) < u.length by omega), drop_at (show j + (n - 2) + 1 < u.length by omega), drop_at (show j + (n - 2) + 1 + 1 < u.length by omega)] at h1
  simp only [val] at h1
  rw [show j + (n - 2) + 1 + 1 + 1 = j + n + 1 by omega, show j + (n - 2) + 1 + 1 = j + n by omega, show j + (n - 2) + 1 = j + n - 1 by omega, show j + (n - 2) = j + n - 2 by omega, h0] at h1
  have h2 := val_split v (n - 2) (by omega)
  rw [drop_at (show n - 2 < v.length by omega), drop_at (show n - 2 + 1 < v.length by omega), List.drop_of_length_le (show v.length ≤ n - 2 + 1 + 1 by omega)] at h2
  simp only [val] at h2
  rw [show n - 2 + 1 = n - 1 by omega] at h2
  have x1 := wu.getD (j + n)
  have x2 := wu.getD (j + n - 1)
  have x3 := wu.getD (j + n - 2)
  have y1 := wv.getD (n - 1)
  have y2 := wv.getD (n - 2)
  refine ⟨?_, ?_, val_nonneg ((wu.drop j).take _), val_take_lt (wu.drop j) _ (by rw [List.length_drop]; omega), val_nonneg (wv.take _), val_take_lt wv _ (by omega), x1.1, x2.1, x2.2, x3.1, x3.2, htop, y1.2, y2.1, y2.2, ?_⟩
  · rw [h1]
    congr 2
    omega
  · rw [h2]
    congr 2
    omega
  · rw [drop_at (show j < u.length by omega)]
    simp only [val]
    have := wu.getD j
    omega

theorem back_ring {W A C g V t c2 k : Int} : W - A * (g * V) + A * (C * 4294967296) * 1 + A * V - A * C * c2 + A * C * (t + c2 - 4294967296 * k - t) = W - A * ((g - 1) * V) + A * (C * 4294967296) * (1 - k) := by grind

/-- A round: a digit, and the rest. -/
theorem S78_14_step {sh : Int} {u v q : List Int} {j n : Nat} (wu : Wf u) (wv : Wf v) (hn : 2 ≤ n) (hnv : v.length = n) (hj : j + n < u.length) (hu : u.length < 1000000000) (hq : j < q.length) (htop : 2147483648 ≤ v.getD (n - 1) 0) (hlt : val (u.drop (j + 1)) < val v) :
    ∃ (g : Int) (r : List Int), S78_14 L106 Lg78_18 Lg78_24 Lg78_35 ((sh, v, (), (n : Int), (), (j : Int), ()), (u, q, ())) = some (.inl ((sh, v, (), (n : Int), (), (j : Int) - 1, ()), (r, q.set j g, ()))) ∧
      0 ≤ g ∧ g < 4294967296 ∧ Wf r ∧ r.length = u.length ∧ val r = val u - 4294967296 ^ j * (g * val v) ∧ val (r.drop j) < val v := by
  have W := mkWin wu wv hn hnv hj htop hlt
  have hVn : val v < 4294967296 ^ n := by
    have := val_lt wv
    rw [hnv] at this
    exact this
  have h0 := above_zero wu hj hVn hlt
  have x1 := wu.getD (j + n)
  have x2 := wu.getD (j + n - 1)
  have y1 := wv.getD (n - 1)
  have hx := W.x_le
  have hU0 := val_nonneg (wu.drop j)
  have hVp := W.V_pos
  obtain ⟨g, hg, h18⟩ := S78_18_spec (sh := sh) (q := q) W rfl rfl rfl hn hnv hj hu
  obtain ⟨c, b, r, h24, hk, hc, hc1, hb, hb1, hv⟩ := Lg78_24_spec (sh := sh) (q := q) (n := n) (j := j) wv wu hg.g0 hg.g1 hnv hj hu
  have hkl := hk.len
  have hrx : r.getD (j + n) 0 = u.getD (j + n) 0 := hk.hi _ (Nat.le_refl _)
  have h106 : L106 (r.getD (j + n) 0, c, b, ()) = _ := F106_spec (hk.wf.getD _).1 (hk.wf.getD _).2 hc hc1 hb hb1
  rw [hrx] at h106
  obtain ⟨d, hd⟩ : ∃ d, d = u.getD (j + n) 0 - c - b := ⟨_, rfl⟩
  rw [← hd] at h106
  have hz := Int.emod_nonneg d (show (4294967296 : Int) ≠ 0 by decide)
  have hz' := Int.emod_lt_of_pos d (show (0 : Int) < 4294967296 by decide)
  have hk1 := hk.set hz hz'
  have hv1 : val (r.set (j + n) (d % 4294967296)) = val u - 4294967296 ^ j * (g * val v) + 4294967296 ^ j * 4294967296 ^ (n + 1) * bor d := by
    rw [val_set (by omega), hv, hrx, powB_add, powB]
    have hdm : d % 4294967296 = d + 4294967296 * bor d := by
      unfold bor
      split <;> omega
    rw [hdm]
    generalize (4294967296 : Int) ^ j = A at *
    generalize (4294967296 : Int) ^ n = C at *
    grind
  have hd1 := drop_val hk1.lo (by rw [hk1.len]; omega) (by omega)
  have hab : val ((r.set (j + n) (d % 4294967296)).drop (j + n + 1)) = 0 := by
    rw [drop_ext hk1.len (fun k hk' => hk1.hi k (by omega))]
    exact h0
  have hE1 := window_lt hk1.wf (by rw [hk1.len]; omega) hab
  have hE0 := val_nonneg (hk1.wf.drop j)
  have hE : val ((r.set (j + n) (d % 4294967296)).drop j) = val (u.drop j) - g * val v + 4294967296 ^ (n + 1) * bor d := by
    refine Int.eq_of_mul_eq_mul_left (show (4294967296 : Int) ^ j ≠ 0 by have := powB_pos j; omega) ?_
    rw [hd1, hv1]
    generalize (4294967296 : Int) ^ j = A at *
    grind
  have m3 : IntKind.i64.wrap ((j : Int) + (n : Int)) = ((j + n : Nat) : Int) := by rw [wi (by omega) (by omega)]; omega
  have m4 : IntKind.i64.wrap (((j + n : Nat) : Int) - 1) = ((j + n - 1 : Nat) : Int) := by rw [wi (by omega) (by omega)]; omega
  have m1 : IntKind.i64.wrap ((n : Int) - 1) = ((n - 1 : Nat) : Int) := by rw [wi (by omega) (by omega)]; omega
  have m5 : IntKind.i64.wrap ((j : Int) - 1) = (j : Int) - 1 := wi (by omega) (by omega)
  have p0 : (j : Int) ≥ 0 := by omega
  have p1 : (0 : Int) ≤ ((n - 1 : Nat) : Int) := by omega
  have p2 : ((n - 1 : Nat) : Int) < (v.length : Int) := by omega
  have p3 : (0 : Int) ≤ ((j + n : Nat) : Int) := by omega
  have p4 : ((j + n : Nat) : Int) < (u.length : Int) := by omega
  have p5 : (0 : Int) ≤ ((j + n - 1 : Nat) : Int) := by omega
  have p6 : ((j + n - 1 : Nat) : Int) < (u.length : Int) := by omega
  have p7 : (j : Int) < (q.length : Int) := by omega
  have e1 : IntKind.u64.wrap (v.getD (n - 1) 0) = v.getD (n - 1) 0 := w64 (by omega) (by omega)
  have e2 : IntKind.u64.wrap (u.getD (j + n) 0) = u.getD (j + n) 0 := w64 (by omega) (by omega)
  have e3 : IntKind.u64.wrap (u.getD (j + n - 1) 0) = u.getD (j + n - 1) 0 := w64 (by omega) (by omega)
  have p8 : ¬ v.getD (n - 1) 0 = 0 := by omega
  have e4 := or_limbs x1.1 x1.2 x2.1 x2.2
  have t0 : 0 ≤ u.getD (j + n) 0 * 4294967296 + u.getD (j + n - 1) 0 := by omega
  have e5 : Int.tdiv (u.getD (j + n) 0 * 4294967296 + u.getD (j + n - 1) 0) (v.getD (n - 1) 0) = (u.getD (j + n) 0 * 4294967296 + u.getD (j + n - 1) 0) / v.getD (n - 1) 0 := Int.tdiv_eq_ediv_of_nonneg t0
  have e6 : Int.tmod (u.getD (j + n) 0 * 4294967296 + u.getD (j + n - 1) 0) (v.getD (n - 1) 0) = (u.getD (j + n) 0 * 4294967296 + u.getD (j + n - 1) 0) % v.getD (n - 1) 0 := Int.tmod_eq_emod_of_nonneg t0
  have e7 : IntKind.u64.wrap ((u.getD (j + n) 0 * 4294967296 + u.getD (j + n - 1) 0) / v.getD (n - 1) 0) = (u.getD (j + n) 0 * 4294967296 + u.getD (j + n - 1) 0) / v.getD (n - 1) 0 := by
    refine w64 (Int.ediv_nonneg t0 (by omega)) (Int.lt_of_le_of_lt (Int.ediv_le_self _ t0) (by omega))
  have e8 : IntKind.u32.wrap c = c := w32 hc hc1
  have p9 : ((j + n : Nat) : Int) < (r.length : Int) := by omega
  have H := S78_14_eq L106 Lg78_18 Lg78_24 Lg78_35 sh v (n : Int) (j : Int) u q
  simp only [decide_eq_true_eq, m1, m3, m4, p0, p1, p2, p3, p4, p5, p6, p8, if_true, if_false, Int.toNat_natCast, e1, e2, e3, e4, e5, e6, e7] at H
  rw [h18] at H
  simp only [Option.bind_some] at H
  rw [h24] at H
  simp only [Option.bind_some, m3, p3, p9, if_true, Int.toNat_natCast, e8, hrx] at H
  rw [h106] at H
  simp only [Option.bind_some] at H
  have hgw : IntKind.u32.wrap g = g := w32 hg.g0 hg.g1
  by_cases hneg : d < 0
  · have hb1' : bor d = 1 := by
      unfold bor
      rw [if_pos hneg]
    rw [if_pos hneg] at H
    have pne : (!(1 : Int) == 0) = true := by decide
    rw [if_pos pne] at H
    rw [hb1', Int.mul_one] at hE
    have hUg : val (u.drop j) < g * val v := by omega
    have hg1 : 1 ≤ g := by
      have := hg.g0
      rcases (show g = 0 ∨ 1 ≤ g by omega) with qq | qq
      · subst qq
        omega
      · exact qq
    have hlo := hg.lo
    have ew : IntKind.u64.wrap (g - 1) = g - 1 := w64 (by omega) (by have := hg.g1; omega)
    obtain ⟨c2, r2, h35, hk2, hc2, hc21, hv2⟩ := Lg78_35_spec (sh := sh) (g := g - 1) (q := q) (n := n) (j := j) wv hk1.wf hnv (by rw [hk1.len]; omega) (by rw [hk1.len]; exact hu)
    have hk2l := hk2.len
    have hk1l := hk1.len
    rw [ew, h35] at H
    have p10 : ((j + n : Nat) : Int) < (r2.length : Int) := by omega
    simp only [Option.bind_some, m3, m5, p3, p0, p7, p10, if_true, Int.toNat_natCast] at H
    have hr2 : r2.getD (j + n) 0 = d % 4294967296 := by
      rw [hk2.hi _ (Nat.le_refl _), getD_set, if_pos ⟨rfl, by omega⟩]
    have ew2 : IntKind.u32.wrap (g - 1) = g - 1 := w32 (by omega) (by have := hg.g1; omega)
    rw [hr2, w32m, ew2] at H
    have hy := Int.emod_nonneg (d % 4294967296 + c2) (show (4294967296 : Int) ≠ 0 by decide)
    have hy' := Int.emod_lt_of_pos (d % 4294967296 + c2) (show (0 : Int) < 4294967296 by decide)
    have hk3 := hk2.set hy hy'
    have hlo3 : (r2.set (j + n) ((d % 4294967296 + c2) % 4294967296)).take j = u.take j := by rw [hk3.lo, hk1.lo]
    have hlen3 : (r2.set (j + n) ((d % 4294967296 + c2) % 4294967296)).length = u.length := by rw [hk3.len, hk1.len]
    have hv3 : val (r2.set (j + n) ((d % 4294967296 + c2) % 4294967296)) = val u - 4294967296 ^ j * ((g - 1) * val v) + 4294967296 ^ j * 4294967296 ^ (n + 1) * (1 - (d % 4294967296 + c2) / 4294967296) := by
      rw [val_set (by omega), hv2, hv1, hr2, hb1', powB, powB_add]
      have hm : (d % 4294967296 + c2) % 4294967296 = d % 4294967296 + c2 - 4294967296 * ((d % 4294967296 + c2) / 4294967296) := by omega
      rw [hm]
      exact back_ring
    have hd3 := drop_val hlo3 (by rw [hlen3]; omega) (by omega)
    have hab3 : val ((r2.set (j + n) ((d % 4294967296 + c2) % 4294967296)).drop (j + n + 1)) = 0 := by
      rw [drop_ext hk3.len (fun k hk' => hk3.hi k (by omega))]
      exact hab
    have hF1 := window_lt hk3.wf (by rw [hlen3]; omega) hab3
    have hF : val ((r2.set (j + n) ((d % 4294967296 + c2) % 4294967296)).drop j) = val (u.drop j) - (g - 1) * val v + 4294967296 ^ (n + 1) * (1 - (d % 4294967296 + c2) / 4294967296) := by
      refine Int.eq_of_mul_eq_mul_left (show (4294967296 : Int) ^ j ≠ 0 by have := powB_pos j; omega) ?_
      rw [hd3, hv3]
      generalize (4294967296 : Int) ^ j = A at *
      generalize (d % 4294967296 + c2) / 4294967296 = k at *
      grind
    have hk01 : (d % 4294967296 + c2) / 4294967296 = 0 ∨ (d % 4294967296 + c2) / 4294967296 = 1 := by omega
    have hkk : (d % 4294967296 + c2) / 4294967296 = 1 := by
      rcases hk01 with qq | qq
      · exfalso
        rw [qq] at hF
        omega
      · exact qq
    rw [hkk] at hF hv3
    refine ⟨g - 1, _, H, by omega, by have := hg.g1; omega, hk3.wf, hlen3, ?_, ?_⟩
    · rw [hv3]
      omega
    · rw [hF]
      have : (g - 1) * val v = g * val v - val v := by grind
      omega
  · have hb1' : bor d = 0 := by
      unfold bor
      rw [if_neg hneg]
    rw [if_neg hneg] at H
    have pne : (!(0 : Int) == 0) = false := by decide
    rw [pne] at H
    simp only [Bool.false_eq_true, if_false, p0, p7, if_true, m5] at H
    rw [hb1', Int.mul_zero, Int.add_zero] at hE hv1
    rw [hgw] at H
    refine ⟨g, _, H, hg.g0, hg.g1, hk1.wf, hk1.len, hv1, ?_⟩
    rw [hE]
    have := hg.hi
    have : (g + 1) * val v = g * val v + val v := by grind
    omega
end Go.Proofs.Rf
/- A long division, whole. -/
namespace Go.Proofs.Rf
open Go Go.RowKit

/-- The rounds of a long division. -/
theorem Lg78_14_spec {sh : Int} {u v : List Int} {n m : Nat} (wu : Wf u) (wv : Wf v) (hn : 2 ≤ n) (hnv : v.length = n) (hm : m + n = u.length) (hu : u.length < 1000000000) (htop : 2147483648 ≤ v.getD (n - 1) 0) (hlt : val (u.drop m) < val v) :
    ∃ (r q : List Int), Lg78_14 ((sh, v, (), (n : Int), (), (m : Int) - 1, ()), (u, List.replicate m 0, ())) = some ((sh, (), (), ()), (r, q, ())) ∧ Wf r ∧ Wf q ∧ r.length = u.length ∧ q.length = m ∧ val r < val v ∧ val r + val v * val q = val u := by
  obtain ⟨z, h1, r, q, rfl, h2⟩ := limL_ind (f := S78_14 L106 Lg78_18 Lg78_24 Lg78_35) (fun x => (x.1.2.2.2.2.2.1 + 1).toNat)
    (fun x => ∃ (k : Nat) (r q : List Int), x = ((sh, v, (), (n : Int), (), (k : Int) - 1, ()), (r, q, ())) ∧ k ≤ m ∧ Wf r ∧ Wf q ∧ r.length = u.length ∧ q.length = m ∧ val (r.drop k) < val v ∧ val r + val v * val q = val u ∧ ∀ i, i < k → q.getD i 0 = 0)
    (fun z => ∃ (r q : List Int), z = ((sh, (), (), ()), (r, q, ())) ∧ Wf r ∧ Wf q ∧ r.length = u.length ∧ q.length = m ∧ val r < val v ∧ val r + val v * val q = val u) (by
    rintro x ⟨k, r, q, rfl, hk, wr, wq, hr, hq, hl, hv, hz⟩
    rcases Nat.eq_zero_or_pos k with rfl | hp
    · right
      refine ⟨_, ?_, r, q, rfl, wr, wq, hr, hq, by rw [List.drop_zero] at hl; exact hl, hv⟩
      rw [S78_14_eq]
      rfl
    · left
      obtain ⟨k, rfl⟩ : ∃ k', k = k' + 1 := ⟨k - 1, by omega⟩
      obtain ⟨g, r', h3, hg, hg1, wr', hr', hv', hl'⟩ := S78_14_step (sh := sh) (q := q) (j := k) wr wv hn hnv (by omega) (by omega) (by omega) htop hl
      rw [show (k : Int) = ((k + 1 : Nat) : Int) - 1 by omega] at h3
      refine ⟨_, h3, ⟨k, r', q.set k g, by rw [show ((k + 1 : Nat) : Int) - 1 - 1 = (k : Int) - 1 by omega], by omega, wr', wq.set k hg hg1, by omega, by rw [List.length_set]; exact hq, hl', ?_, fun i hi => ?_⟩, by simp only; omega⟩
      · rw [val_set (by omega), hz k (by omega), hv']
        generalize (4294967296 : Int) ^ k = A at *
        grind
      · rw [getD_set, if_neg (by omega)]
        exact hz i (by omega)) ((sh, v, (), (n : Int), (), (m : Int) - 1, ()), (u, List.replicate m 0, ())) ⟨m, u, _, rfl, Nat.le_refl _, wu, Wf.replicate m, rfl, by simp, hlt, by rw [val_replicate]; simp, fun i _ => by rw [List.getD_eq_getElem?_getD, List.getElem?_replicate]; split <;> rfl⟩
  exact ⟨r, q, h1, h2⟩

theorem L105_spec {l : List Int} (hl : l.length ≤ 4294967296) : L105 (l, ()) = some (((), ()), (l, ())) := by
  show C105 (l, ()) = _
  unfold C105
  rw [if_pos (by simpa using hl)]

theorem Lg78_9_spec {a u v : List Int} {sh : Int} (h : a.length < u.length) : Lg78_9 ((a, sh, v, (), ()), (u, ())) = some ((sh, v, (), ()), (u, ())) := by
  obtain ⟨z, h1, rfl⟩ := limL_ind (f := S78_9) (fun _ => 0) (fun x => x = ((a, sh, v, (), ()), (u, ()))) (fun z => z = ((sh, v, (), ()), (u, ()))) (by
    rintro x rfl
    right
    refine ⟨_, ?_, rfl⟩
    rw [S78_9_eq, if_neg (by rw [decide_eq_true_eq]; omega)]) _ rfl
  exact h1

/-- Shifted so far that the highest bit is one. -/
theorem norm_top {b : Nat} (hb : b ≠ 0) : ∃ k s, (lim b).length = k + 1 ∧ (lim b).getD k 0 = ((b / 4294967296 ^ k : Nat) : Int) ∧ b / 4294967296 ^ k < 4294967296 ∧ 32 - (bl (b / 4294967296 ^ k) : Int) = (s : Nat) ∧ s < 32 ∧ (lim (b * 2 ^ s)).length = k + 1 ∧ 2147483648 ≤ (lim (b * 2 ^ s)).getD k 0 := by
  obtain ⟨k, h1, h2, h3, h4⟩ := lim_top hb
  have h5 := bl_le_of (k := 32) (x := b / 4294967296 ^ k) (by simpa using h4)
  have h6 := bl_pos h3
  obtain ⟨s, hs⟩ : ∃ s, s = 32 - bl (b / 4294967296 ^ k) := ⟨_, rfl⟩
  have h7 : bl b = bl (b / 4294967296 ^ k) + 32 * k := by
    have := bl_shift (x := b) (k := 32 * k) (by rw [← B_pow]; exact h3)
    rw [← B_pow] at this
    exact this
  have h8 := bl_lt b
  have h9 := bl_le hb
  have h10 : b * 2 ^ s < 2 ^ (32 * (k + 1)) := by
    rw [show 32 * (k + 1) = bl b + s by omega, Nat.pow_add]
    exact (Nat.mul_lt_mul_right (Nat.two_pow_pos s)).2 h8
  have h11 : 2 ^ (32 * k) * 2147483648 ≤ b * 2 ^ s := by
    have : 2 ^ (32 * k) * 2147483648 = 2 ^ (bl b - 1) * 2 ^ s := by
      rw [← Nat.pow_add, show bl b - 1 + s = 32 * k + 31 by omega, Nat.pow_add]
    rw [this]
    exact Nat.mul_le_mul_right _ h9
  have h12 : (lim (b * 2 ^ s)).length = k + 1 := by
    have q1 : (lim (b * 2 ^ s)).length ≤ k + 1 := lim_length_of (by rw [B_pow]; exact h10)
    have q2 : ¬ (lim (b * 2 ^ s)).length ≤ k := by
      rw [lim_length_iff, B_pow]
      have := Nat.two_pow_pos (32 * k)
      omega
    omega
  refine ⟨k, s, h1, h2, h4, by omega, by omega, h12, ?_⟩
  rw [limB]
  unfold lb
  have h13 : b * 2 ^ s / 2 ^ (32 * k) < 2 ^ 32 := by
    refine (Nat.div_lt_iff_lt_mul (Nat.two_pow_pos _)).2 ?_
    rw [← Nat.pow_add, show 32 + 32 * k = 32 * (k + 1) by omega]
    exact h10
  have h14 : 2147483648 ≤ b * 2 ^ s / 2 ^ (32 * k) := by
    refine (Nat.le_div_iff_mul_le (Nat.two_pow_pos _)).2 ?_
    rw [Nat.mul_comm]
    exact h11
  rw [Nat.mod_eq_of_lt h13]
  omega

/-- over. -/
theorem L78_spec {a b : Nat} (hb : b ≠ 0) (ha : (lim a).length < 100000) (hbl : (lim b).length < 100000) : L78 (lim a, lim b, ()) = some ((lim (a / b), lim (a % b), ()), ()) := by
  show F78 L58 L76 L77 L79 L96 L99 L100 L105 Lg78_9 Lg78_14 (lim a, lim b, ()) = _
  rw [F78_eq]
  obtain ⟨c, h79, hc, _⟩ := L79_spec (a := a) (b := b) (by omega) (by omega)
  rw [h79]
  simp only [Option.bind_some]
  by_cases hlt : a < b
  · have p : c < 0 := hc.2 hlt
    rw [if_pos (by rw [decide_eq_true_eq]; exact p), L105_spec (by omega), Nat.div_eq_of_lt hlt, Nat.mod_eq_of_lt hlt, lim_zero]
    rfl
  · have p : ¬ c < 0 := fun q => hlt (hc.1 q)
    rw [if_neg (by rw [decide_eq_true_eq]; exact p)]
    obtain ⟨k, s, h1, h2, h3, h4, h5, h6, h7⟩ := norm_top hb
    by_cases hk : k = 0
    · subst hk
      have q1 : (((lim b).length : Int) == 1) = true := by rw [h1]; rfl
      have q2 : (0 : Int) < ((lim b).length : Int) := by rw [h1]; decide
      have q3 : (lim b).getD 0 0 = (b : Int) := by
        rw [h2, Nat.pow_zero, Nat.div_one]
      have q4 : b < 4294967296 := by
        rw [Nat.pow_zero, Nat.div_one] at h3
        exact h3
      rw [if_pos q1, if_pos q2, q3, L99_spec (Wf_lim a) (by omega) (by omega) (by omega), val_lim]
      simp only [Option.bind_some]
      rw [← Int.natCast_emod, L58_spec (Int.natCast_nonneg _) (by have := Nat.mod_lt a (Nat.pos_of_ne_zero hb); omega), ← Int.natCast_ediv]
      rfl
    · have q1 : ¬ (((lim b).length : Int) == 1) = true := by
        rw [beq_iff_eq, h1]
        omega
      have e1 : IntKind.i64.wrap (((lim b).length : Int) - 1) = (k : Int) := by rw [wi (by omega) (by omega)]; omega
      have q2 : (0 : Int) ≤ (k : Int) := by omega
      have q3 : (k : Int) < ((lim b).length : Int) := by omega
      rw [if_neg q1, e1, if_pos q2, if_pos q3, Int.toNat_natCast, h2, L100_spec h3, h4]
      simp only [Option.bind_some]
      rw [L76_spec (a := b) (n := s) (by omega) (by omega)]
      simp only [Option.bind_some]
      rw [L76_spec (a := a) (n := s) (by omega) (by omega)]
      simp only [Option.bind_some]
      have hap : a ≤ a * 2 ^ s := Nat.le_mul_of_pos_right _ (Nat.two_pow_pos s)
      have hal := lim_length_mono hap
      have hau : (lim (a * 2 ^ s)).length ≤ (lim a).length + 1 := by
        refine lim_length_of ?_
        rw [B_pow]
        have h8 := lim_lt a
        rw [B_pow] at h8
        rw [show 32 * ((lim a).length + 1) = 32 * (lim a).length + 32 by omega, Nat.pow_add]
        exact Nat.mul_lt_mul_of_lt_of_le h8 (Nat.pow_le_pow_right (by decide) (by omega)) (Nat.two_pow_pos _)
      rw [L105_spec (by omega)]
      simp only [Option.bind_some]
      rw [if_pos (by omega), Lg78_9_spec (by simp; omega)]
      simp only [Option.bind_some, h6]
      have hbl2 : (lim b).length ≤ (lim a).length := lim_length_mono (by omega)
      obtain ⟨m, hm⟩ : ∃ m, m = (lim (a * 2 ^ s)).length - k := ⟨_, rfl⟩
      have e2 : IntKind.i64.wrap (((lim (a * 2 ^ s) ++ [0]).length : Int) - ((k + 1 : Nat) : Int)) = (m : Int) := by
        rw [List.length_append, List.length_cons, List.length_nil, wi (by omega) (by omega)]
        omega
      have e3 : IntKind.i64.wrap ((m : Int) - 1) = (m : Int) - 1 := wi (by omega) (by omega)
      have q4 : (0 : Int) ≤ (m : Int) := by omega
      have q5 : (m : Int) ≤ ((4294967296 : Nat) : Int) := by omega
      simp only [e2, e3, q4, q5, Int.le_refl, if_true, Int.toNat_natCast]
      have wu : Wf (lim (a * 2 ^ s) ++ [0]) := (Wf_lim _).append (Wf.cons (by decide) (by decide) Wf.nil)
      have hvu : val (lim (a * 2 ^ s) ++ [0]) = ((a * 2 ^ s : Nat) : Int) := by
        rw [val_append, val_lim]
        simp [val]
      have hvv : val (lim (b * 2 ^ s)) = ((b * 2 ^ s : Nat) : Int) := val_lim _
      have hlen : (lim (a * 2 ^ s) ++ [0]).length = (lim (a * 2 ^ s)).length + 1 := by simp
      have hdrop : val ((lim (a * 2 ^ s) ++ [0]).drop m) < val (lim (b * 2 ^ s)) := by
        have hml : m ≤ (lim (a * 2 ^ s)).length := by omega
        rw [List.drop_append_of_le_length hml, val_append]
        have h9 : val ((lim (a * 2 ^ s)).drop m) < 4294967296 ^ ((lim (a * 2 ^ s)).drop m).length := val_lt ((Wf_lim _).drop m)
        rw [List.length_drop, show (lim (a * 2 ^ s)).length - m = k by omega] at h9
        simp only [val, Int.mul_zero, Int.add_zero]
        have h10 := val_split (lim (b * 2 ^ s)) k (by omega)
        rw [drop_at (show k < (lim (b * 2 ^ s)).length by omega)] at h10
        simp only [val] at h10
        have h11 := val_nonneg ((Wf_lim (b * 2 ^ s)).take k)
        have h12 := val_nonneg ((Wf_lim (b * 2 ^ s)).drop (k + 1))
        have h13 : (4294967296 : Int) ^ k * 1 ≤ 4294967296 ^ k * ((lim (b * 2 ^ s)).getD k 0 + 4294967296 * val ((lim (b * 2 ^ s)).drop (k + 1))) := Int.mul_le_mul_of_nonneg_left (by omega) (Int.le_of_lt (powB_pos k))
        omega
      obtain ⟨r, q, h14, wr, wq, hr, hq, hv1, hv2⟩ := Lg78_14_spec (sh := (s : Int)) (n := k + 1) (m := m) wu (Wf_lim (b * 2 ^ s)) (by omega) h6 (by omega) (by omega) (by rw [show k + 1 - 1 = k by omega]; exact h7) hdrop
      rw [h14]
      simp only [Option.bind_some]
      rw [L96_spec wr (by omega)]
      simp only [Option.bind_some]
      rw [hvu, hvv] at hv2
      rw [hvv] at hv1
      have hr0 := val_nonneg wr
      have hps := Nat.two_pow_pos s
      have hdm := Int.ediv_emod_unique (a := ((a * 2 ^ s : Nat) : Int)) (q := val q) (r := val r) (b := ((b * 2 ^ s : Nat) : Int)) (by have := Nat.mul_pos (Nat.pos_of_ne_zero hb) hps; omega)
      obtain ⟨hq1, hr1⟩ := hdm.2 ⟨hv2, hr0, hv1⟩
      rw [← Int.natCast_ediv, Nat.mul_div_mul_right _ _ hps] at hq1
      rw [← Int.natCast_emod, Nat.mul_mod_mul_right] at hr1
      rw [← hr1, Int.toNat_natCast]
      have hrl : (lim (a % b * 2 ^ s)).length < 1000000 := by
        have h15 : a % b * 2 ^ s ≤ a * 2 ^ s := Nat.mul_le_mul_right _ (Nat.mod_le a b)
        have := lim_length_mono h15
        omega
      rw [L77_spec hrl (by omega), Nat.mul_div_cancel _ hps]
      simp only [Option.bind_some]
      rw [L96_spec wq (by omega), ← hq1, Int.toNat_natCast]
      rfl
end Go.Proofs.Rf
/- Signed numbers: sums, products, in both texts. -/
namespace Go.Proofs.Rf
open Go Go.RowKit

def sgn (neg : Bool) (n : Nat) : Int := if neg = true then -(n : Int) else (n : Int)

theorem sgn_natAbs (neg : Bool) (n : Nat) : (sgn neg n).natAbs = n := by
  unfold sgn
  cases neg <;> simp

theorem zl_sgn (neg : Bool) (n : Nat) : zl (sgn neg n) = (neg && decide (0 < (lim n).length), lim n) := by
  unfold zl
  rw [sgn_natAbs]
  congr 1
  unfold sgn
  cases neg
  · simp
  · simp only [if_true, Bool.true_and]
    rw [decide_eq_decide]
    constructor
    · intro h
      rcases Nat.eq_zero_or_pos (lim n).length with q | q
      · have := lim_eq_nil.1 (List.eq_nil_of_length_eq_zero q)
        omega
      · exact q
    · intro h
      have : n ≠ 0 := by
        rintro rfl
        rw [lim_zero] at h
        simp at h
      omega

theorem zl_2 (z : Int) : (zl z).2 = lim z.natAbs := rfl
/-- A number, if it is not too large. -/
def res (z : Int) : (Bool × List Int) × Int := if 200 < (lim z.natAbs).length then ((false, []), 4) else (zl z, 0)

theorem len_pos_int {l : List Int} : decide ((l.length : Int) > 0) = decide (0 < l.length) := by
  rw [decide_eq_decide]
  omega

theorem L51_gen {neg : Bool} {l : List Int} {n : Nat} (hw : Wf l) (hv : val l = (n : Int)) (hl : l.length < 4611686018427387904) : L51 (neg, l, ()) = some (((res (sgn neg n)).1, (res (sgn neg n)).2, ()), ()) := by
  show F51 L50 (neg, l, ()) = _
  rw [F51_eq, L50_spec hw hl, hv, Int.toNat_natCast]
  simp only [Option.bind_some]
  unfold res
  rw [sgn_natAbs]
  by_cases h : 200 < (lim n).length
  · have p : ((lim n).length : Int) > 200 := by omega
    rw [if_pos (by rw [decide_eq_true_eq]; exact p), if_pos h]
  · have p : ¬ ((lim n).length : Int) > 200 := by omega
    rw [if_neg (by rw [decide_eq_true_eq]; exact p), if_neg h, zl_sgn, len_pos_int]
    cases neg <;> rfl

theorem L51_lim {neg : Bool} {n : Nat} (hl : (lim n).length < 4611686018427387904) : L51 (neg, lim n, ()) = some (((res (sgn neg n)).1, (res (sgn neg n)).2, ()), ()) := L51_gen (Wf_lim n) (val_lim n) hl

theorem L97_spec {l : List Int} (hl : l.length ≤ 4294967296) : L97 (l, ()) = some ((l, ()), ()) := by
  show C97 (l, ()) = _
  unfold C97
  rw [if_pos (by simpa using hl)]

theorem L61_gen {neg : Bool} {n : Nat} (hl : (lim n).length ≤ 4294967296) : L61 (neg, lim n, ()) = some ((zl (sgn neg n), ()), ()) := by
  show F61 L97 (neg, lim n, ()) = _
  rw [F61_eq, L97_spec hl, zl_sgn, len_pos_int]
  cases neg <;> rfl

theorem L75_spec (z : Int) : L75 (zl z, ()) = some (((res z).1, (res z).2, ()), ()) := by
  show F75 ((decide (z < 0), lim z.natAbs), ()) = _
  rw [F75_eq]
  unfold res
  by_cases h : 200 < (lim z.natAbs).length
  · have p : ((lim z.natAbs).length : Int) > 200 := by omega
    rw [if_pos (by rw [decide_eq_true_eq]; exact p), if_pos h]
  · have p : ¬ ((lim z.natAbs).length : Int) > 200 := by omega
    rw [if_neg (by rw [decide_eq_true_eq]; exact p), if_neg h]
    rfl

theorem L63_at (neg : Bool) (l : List Int) : L63 ((neg, l), ()) = some ((l, ()), ()) := F63_eq neg l
theorem pe {α β : Type} (p : α × β) : (p.1, p.2) = p := rfl

/-! ### Sums -/
/-- So long at most. -/
def Sz (k : Nat) (z : Int) : Prop := (lim z.natAbs).length ≤ k

theorem lim_add_length (a b : Nat) : (lim (a + b)).length ≤ max (lim a).length (lim b).length + 1 := by
  refine lim_length_of ?_
  have h1 := lim_lt a
  have h2 := lim_lt b
  have h3 : 4294967296 ^ (lim a).length ≤ 4294967296 ^ max (lim a).length (lim b).length := Nat.pow_le_pow_right (by decide) (Nat.le_max_left ..)
  have h4 : 4294967296 ^ (lim b).length ≤ 4294967296 ^ max (lim a).length (lim b).length := Nat.pow_le_pow_right (by decide) (Nat.le_max_right ..)
  rw [Nat.pow_succ]
  omega

theorem Sz.add {j k : Nat} {x y : Int} (hx : Sz j x) (hy : Sz k y) : Sz (max j k + 1) (x + y) := by
  have h1 := lim_add_length x.natAbs y.natAbs
  have h2 := lim_length_mono (Int.natAbs_add_le x y)
  unfold Sz at *
  omega

theorem lim_mul_length (a b : Nat) : (lim (a * b)).length ≤ (lim a).length + (lim b).length := by
  refine lim_length_of ?_
  rw [Nat.pow_add]
  have h1 := lim_lt a
  have h2 := lim_lt b
  by_cases hb : b = 0
  · subst hb
    rw [Nat.mul_zero]
    exact Nat.mul_pos (Nat.pow_pos (by decide)) (Nat.pow_pos (by decide))
  · exact Nat.mul_lt_mul_of_lt_of_le h1 (Nat.le_of_lt h2) (Nat.lt_of_le_of_lt (Nat.zero_le _) h2)

theorem Sz.mul {j k : Nat} {x y : Int} (hx : Sz j x) (hy : Sz k y) : Sz (j + k) (x * y) := by
  unfold Sz at *
  rw [Int.natAbs_mul]
  have := lim_mul_length x.natAbs y.natAbs
  omega

theorem Sz.neg {k : Nat} {x : Int} (hx : Sz k x) : Sz k (-x) := by
  unfold Sz at *
  rw [Int.natAbs_neg]
  exact hx

theorem Sz.mono {j k : Nat} {x : Int} (h : Sz j x) (hk : j ≤ k) : Sz k x := Nat.le_trans h hk

theorem Sz.le {k : Nat} {x y : Int} (h : Sz k y) (hx : x.natAbs ≤ y.natAbs) : Sz k x := Nat.le_trans (lim_length_mono hx) h

theorem L59_spec' {a b : Nat} (ha : (lim a).length < 1000000000) (hb : (lim b).length < 1000000000) : L59 (lim a, lim b, ()) = some ((lim (a + b), ()), ()) := by
  have := L59_spec (Wf_lim a) (Wf_lim b) ha hb
  rw [val_lim, val_lim, ← Int.natCast_add, Int.toNat_natCast] at this
  exact this

theorem L48_spec' {a b : Nat} (ha : (lim a).length < 1000000000) (hb : (lim b).length < 1000000000) : L48 (lim a, lim b, ()) = some ((lim (a + b), ()), ()) := by
  have := L48_spec (Wf_lim a) (Wf_lim b) ha hb
  rw [val_lim, val_lim, ← Int.natCast_add, Int.toNat_natCast] at this
  exact this

theorem L49_spec' {a b : Nat} (ha : (lim a).length < 1000000000) (hb : (lim b).length < 1000000000) : L49 (lim a, lim b, ()) = some ((lim (a * b), ()), ()) := by
  have := L49_spec (Wf_lim a) (Wf_lim b) ha hb
  rw [val_lim, val_lim, ← Int.natCast_mul, Int.toNat_natCast] at this
  exact this

/-! ### Errors of lists -/
def ers : List (Bool × List Int) → Int
  | [] => 0
  | a :: r => if err a.1 a.2 = 0 then ers r else err a.1 a.2

end Go.Proofs.Rf
/- The reference's division, bit by bit. -/
namespace Go.Proofs.Rf
open Go Go.RowKit

theorem or_bit {x : Nat} {b : Nat} (hb : b ≤ 1) : bitop .or .u32 (IntKind.u32.wrap ((x : Int) * 2 ^ 1)) (b : Int) = ((2 * x % 4294967296 + b : Nat) : Int) := by
  have e : IntKind.u32.wrap ((x : Int) * 2 ^ 1) = ((x % 2147483648 * 2 ^ 1 : Nat) : Int) := by
    rw [w32m]
    omega
  rw [e, or32 (by omega) (by omega), or_parts (by omega)]
  congr 1
  omega

theorem S111_step {a r : List Int} {b i : Nat} (wa : Wf a) (hb : b ≤ 1) (hr : r.length = i) (hi : i < a.length) (hs : a.length < 1000000000) :
    S111_3 ((a, (b : Int), (), (i : Int), ()), (r, ())) = some (.inl ((a, (2 * a.getD i 0 + b) / 4294967296, (), ((i + 1 : Nat) : Int), ()), (r ++ [(2 * a.getD i 0 + b) % 4294967296], ()))) := by
  have xa := wa.getD i
  rw [S111_3_eq]
  have p1 : (i : Int) < (a.length : Int) := by omega
  have p2 : (0 : Int) ≤ (i : Int) := by omega
  have e1 : IntKind.i64.wrap ((i : Int) + 1) = ((i + 1 : Nat) : Int) := by rw [wi (by omega) (by omega)]; omega
  simp only [decide_eq_true_eq, p1, p2, if_true, Int.toNat_natCast, e1]
  generalize a.getD i 0 = A at *
  obtain ⟨x, rfl⟩ := Int.eq_ofNat_of_zero_le xa.1
  rw [or_bit hb, if_pos (by simp; omega)]
  have e2 : Int.fdiv (x : Int) (2 ^ 31) = (2 * (x : Int) + b) / 4294967296 := by
    rw [fdiv_pow]
    omega
  have e3 : ((2 * x % 4294967296 + b : Nat) : Int) = (2 * (x : Int) + b) % 4294967296 := by omega
  rw [e2, e3]

theorem L111_spec {n b : Nat} (hb : b ≤ 1) (hl : (lim n).length < 1000000) : L111 (lim n, (b : Int), ()) = some ((lim (2 * n + b), ()), ()) := by
  obtain ⟨z, h1, r, c, rfl, hw, hr, hc, hv⟩ := limL_ind (f := S111_3) (fun x => (lim n).length - x.1.2.2.2.1.toNat)
    (fun x => ∃ (c i : Nat) (r : List Int), x = ((lim n, (c : Int), (), (i : Int), ()), (r, ())) ∧ c ≤ 1 ∧ r.length = i ∧ i ≤ (lim n).length ∧ Wf r ∧ val r + 4294967296 ^ i * c = 2 * val ((lim n).take i) + b)
    (fun z => ∃ (r : List Int) (c : Nat), z = (((c : Int), (), ()), (r, ())) ∧ Wf r ∧ r.length = (lim n).length ∧ c ≤ 1 ∧ val r + 4294967296 ^ (lim n).length * c = 2 * val (lim n) + b) (by
    rintro x ⟨c, i, r, rfl, hc, hr, hi, hw, hv⟩
    by_cases hd : i < (lim n).length
    · left
      have xa := (Wf_lim n).getD i
      have hst := S111_step (Wf_lim n) hc hr hd (by omega)
      have hvs : val ((lim n).take (i + 1)) = _ := val_take_succ (lim n) i
      generalize (lim n).getD i 0 = A at *
      obtain ⟨c', hc'⟩ := Int.eq_ofNat_of_zero_le (show 0 ≤ (2 * A + (c : Int)) / 4294967296 by omega)
      rw [hc'] at hst
      refine ⟨_, hst, ⟨c', i + 1, _, rfl, by omega, by simp [hr], by omega, hw.append (Wf.cons (by omega) (by omega) Wf.nil), ?_⟩, by simp only [Int.toNat_natCast]; omega⟩
      rw [val_append, hr, hvs, powB]
      have hm : (2 * A + (c : Int)) % 4294967296 = 2 * A + c - 4294967296 * c' := by omega
      simp only [val, hm]
      generalize (4294967296 : Int) ^ i = P at *
      grind
    · right
      obtain rfl : i = (lim n).length := by omega
      refine ⟨_, ?_, r, c, rfl, hw, hr, hc, ?_⟩
      · rw [S111_3_eq, if_neg (by simp)]
      · rw [List.take_length] at hv
        exact hv) ((lim n, (b : Int), (), 0, ()), ([], ())) ⟨b, 0, [], rfl, hb, rfl, by omega, Wf.nil, by simp [val]⟩
  show F111 L50 Lg111_3 (lim n, (b : Int), ()) = _
  rw [F111_eq]
  have h1 : Lg111_3 ((lim n, (b : Int), (), 0, ()), [], ()) = _ := h1
  rw [h1]
  simp only [Option.bind_some]
  rw [if_pos (by simp; omega), L50_spec (hw.append (Wf.cons (by omega) (by omega) Wf.nil)) (by simp; omega), val_append, hr]
  simp only [val, Int.mul_zero, Int.add_zero, hv, val_lim, Option.bind_some]
  have : (2 * (n : Int) + b).toNat = 2 * n + b := by omega
  rw [this]

/-- The state of a division by bits. -/
structure DV (a b p : Nat) (r q : List Int) : Prop where
  hr : r = lim (a / 2 ^ p % b)
  wf : Wf q
  len : q.length = (lim a).length
  v : val q = ((a / 2 ^ p / b * 2 ^ p : Nat) : Int)

theorem half {a b p : Nat} (hb : b ≠ 0) :
    (a / 2 ^ p % b = if b ≤ 2 * (a / 2 ^ (p + 1) % b) + a / 2 ^ p % 2 then 2 * (a / 2 ^ (p + 1) % b) + a / 2 ^ p % 2 - b else 2 * (a / 2 ^ (p + 1) % b) + a / 2 ^ p % 2) ∧
    (a / 2 ^ p / b = if b ≤ 2 * (a / 2 ^ (p + 1) % b) + a / 2 ^ p % 2 then 2 * (a / 2 ^ (p + 1) / b) + 1 else 2 * (a / 2 ^ (p + 1) / b)) := by
  have h1 : a / 2 ^ (p + 1) = a / 2 ^ p / 2 := by rw [Nat.pow_succ, Nat.div_div_eq_div_mul]
  rw [h1]
  generalize a / 2 ^ p = A
  have h2 := Nat.div_add_mod (A / 2) b
  have h3 := Nat.mod_lt (A / 2) (Nat.pos_of_ne_zero hb)
  generalize A / 2 % b = r at *
  generalize A / 2 / b = q at *
  have h4 : A = 2 * (b * q + r) + A % 2 := by omega
  have h5 : A % 2 < 2 := Nat.mod_lt _ (by decide)
  generalize A % 2 = t at *
  by_cases hle : b ≤ 2 * r + t
  · rw [if_pos hle, if_pos hle]
    have h6 : A = (2 * r + t - b) + b * (2 * q + 1) := by
      rw [h4]
      have : b * (2 * q + 1) = 2 * (b * q) + b := by grind
      omega
    rw [h6, Nat.add_mul_mod_self_left, Nat.add_mul_div_left _ _ (Nat.pos_of_ne_zero hb)]
    have h7 : 2 * r + t - b < b := by omega
    rw [Nat.mod_eq_of_lt h7, Nat.div_eq_of_lt h7]
    omega
  · rw [if_neg hle, if_neg hle]
    have h6 : A = (2 * r + t) + b * (2 * q) := by
      rw [h4]
      have : b * (2 * q) = 2 * (b * q) := by grind
      omega
    rw [h6, Nat.add_mul_mod_self_left, Nat.add_mul_div_left _ _ (Nat.pos_of_ne_zero hb)]
    have h7 : 2 * r + t < b := by omega
    rw [Nat.mod_eq_of_lt h7, Nat.div_eq_of_lt h7]
    omega

theorem or_bit_in {m k : Nat} (hk : k < 32) {l : Nat} (hl : l = m * 2 ^ (k + 1) % 2 ^ 32) : l ||| 2 ^ k = l + 2 ^ k ∧ l + 2 ^ k < 2 ^ 32 := by
  have h1 : (2 : Nat) ^ 32 = 2 ^ (31 - k) * 2 ^ (k + 1) := by
    rw [← Nat.pow_add]
    congr 1
    omega
  rw [h1, Nat.mul_mod_mul_right] at hl
  have h2 := Nat.mod_lt m (Nat.two_pow_pos (31 - k))
  have h3 : 2 ^ k < 2 ^ (k + 1) := Nat.pow_lt_pow_right (by decide) (by omega)
  refine ⟨by rw [hl, or_parts h3], ?_⟩
  rw [h1, hl]
  generalize m % 2 ^ (31 - k) = t at *
  have h4 : (t + 1) * 2 ^ (k + 1) ≤ 2 ^ (31 - k) * 2 ^ (k + 1) := Nat.mul_le_mul_right _ h2
  rw [Nat.add_mul] at h4
  omega

theorem q_same {M p : Nat} : ((M * 2 ^ (p + 1) : Nat) : Int) = ((2 * M * 2 ^ p : Nat) : Int) := by
  congr 1
  rw [Nat.pow_succ]
  generalize 2 ^ p = T
  grind

theorem q_up {M k i l : Nat} : ((M * 2 ^ (32 * i + k + 1) : Nat) : Int) + 4294967296 ^ i * (((l + 2 ^ k : Nat) : Int) - (l : Int)) = (((2 * M + 1) * 2 ^ (32 * i + k) : Nat) : Int) := by
  have h1 : ((l + 2 ^ k : Nat) : Int) - (l : Int) = ((2 ^ k : Nat) : Int) := by
    generalize 2 ^ k = t
    omega
  rw [h1, ← castB, B_pow, ← Int.natCast_mul, ← Int.natCast_add, ← Nat.pow_add, Nat.pow_succ]
  generalize 2 ^ (32 * i + k) = T
  congr 1
  grind

theorem S91_7_step {a b i k : Nat} {r q : List Int} (hb : b ≠ 0) (hla : (lim a).length < 100000) (hlb : (lim b).length < 100000) (hi : i < (lim a).length) (hk : k < 32) (h : DV a b (32 * i + k + 1) r q) :
    ∃ r' q', S91_7 L62 L102 L111 ((lim a, lim b, (), r, (i : Int), (k : Int), ()), (q, ())) = some (.inl ((lim a, lim b, (), r', (i : Int), (k : Int) - 1, ()), (q', ()))) ∧ DV a b (32 * i + k) r' q' := by
  obtain ⟨hr, wq, hlq, hv⟩ := h
  subst hr
  have hrl : a / 2 ^ (32 * i + k + 1) % b < b := Nat.mod_lt _ (Nat.pos_of_ne_zero hb)
  have hbit := bit_val (Wf_lim a) (val_lim a) (32 * i + k)
  rw [show (32 * i + k) / 32 = i by omega, show (32 * i + k) % 32 = k by omega] at hbit
  obtain ⟨hm, hd⟩ := half (a := a) (p := 32 * i + k) hb
  have hlr : (lim (a / 2 ^ (32 * i + k + 1) % b)).length ≤ (lim b).length := lim_length_mono (by omega)
  have p1 : (k : Int) ≥ 0 := by omega
  have p2 : (0 : Int) ≤ (i : Int) := by omega
  have p3 : (i : Int) < ((lim a).length : Int) := by omega
  have p4 : ¬ (k : Int) < 0 := by omega
  have p5 : (i : Int) < (q.length : Int) := by omega
  have e1 : min k 32 = k := by omega
  have e2 : IntKind.i64.wrap ((k : Int) - 1) = (k : Int) - 1 := wi (by omega) (by omega)
  have H := S91_7_eq L62 L102 L111 (lim a) (lim b) (lim (a / 2 ^ (32 * i + k + 1) % b)) (i : Int) (k : Int) q
  simp only [decide_eq_true_eq, p1, p2, p3, p4, p5, if_true, if_false, Int.toNat_natCast, e1, e2, hbit] at H
  have hb2 : a / 2 ^ (32 * i + k) % 2 ≤ 1 := by omega
  rw [L111_spec hb2 (by omega)] at H
  simp only [Option.bind_some] at H
  have hl2 : (lim (2 * (a / 2 ^ (32 * i + k + 1) % b) + a / 2 ^ (32 * i + k) % 2)).length ≤ (lim b).length + 1 := by
    have q1 : 2 * (a / 2 ^ (32 * i + k + 1) % b) + a / 2 ^ (32 * i + k) % 2 ≤ b + b := by omega
    have q2 := lim_add_length b b
    have q3 := lim_length_mono q1
    omega
  rw [L62_spec (by omega) (by omega)] at H
  simp only [Option.bind_some] at H
  generalize hX : 2 * (a / 2 ^ (32 * i + k + 1) % b) + a / 2 ^ (32 * i + k) % 2 = X at *
  by_cases hle : b ≤ X
  · rw [if_pos hle] at hm hd
    have p6 : sg X b ≥ 0 := by unfold sg; rw [if_neg (by omega)]; split <;> decide
    rw [if_pos p6, L102_spec hle (by omega)] at H
    simp only [Option.bind_some] at H
    -- the quotient's bit
    have hq1 : q.getD i 0 = (lb (a / 2 ^ (32 * i + k + 1) / b * 2 ^ (32 * i + k + 1)) i : Int) := lb_of_val wq hv i
    have hq2 : lb (a / 2 ^ (32 * i + k + 1) / b * 2 ^ (32 * i + k + 1)) i = a / 2 ^ (32 * i + k + 1) / b * 2 ^ (k + 1) % 2 ^ 32 := by
      unfold lb
      rw [show 32 * i + k + 1 = (k + 1) + 32 * i by omega, Nat.pow_add, ← Nat.mul_assoc, Nat.mul_div_cancel _ (Nat.two_pow_pos _)]
    obtain ⟨hq3, hq4⟩ := or_bit_in hk hq2
    have e3 : IntKind.u32.wrap (1 * 2 ^ k) = ((2 ^ k : Nat) : Int) := by
      have : (1 : Int) * 2 ^ k = ((2 ^ k : Nat) : Int) := by simp
      rw [this, w32m]
      have h2 : 2 ^ k < 2 ^ 32 := Nat.pow_lt_pow_right (by decide) hk
      generalize 2 ^ k = t at *
      omega
    have hlk : 2 ^ k < 4294967296 := Nat.pow_lt_pow_right (by decide) hk
    rw [hq1, e3, or32 (lb_lt _ _) hlk, hq3] at H
    refine ⟨_, _, H, ?_, wq.set i (Int.natCast_nonneg _) ?_, by rw [List.length_set]; exact hlq, ?_⟩
    · rw [hm]
    · generalize lb (a / 2 ^ (32 * i + k + 1) / b * 2 ^ (32 * i + k + 1)) i + 2 ^ k = t at *
      omega
    · rw [val_set (by omega), hv, hq1, hd]
      exact q_up
  · rw [if_neg hle] at hm hd
    have p6 : ¬ sg X b ≥ 0 := by unfold sg; rw [if_pos (by omega)]; decide
    rw [if_neg p6] at H
    refine ⟨_, _, H, ?_, wq, hlq, ?_⟩
    · rw [hm]
    · rw [hv, hd]
      exact q_same

theorem Lg91_7_spec {a b i : Nat} {r q : List Int} (hb : b ≠ 0) (hla : (lim a).length < 100000) (hlb : (lim b).length < 100000) (hi : i < (lim a).length) (h : DV a b (32 * (i + 1)) r q) :
    ∃ r' q', Lg91_7 ((lim a, lim b, (), r, (i : Int), 31, ()), (q, ())) = some ((lim a, lim b, (), r', (i : Int), ()), (q', ())) ∧ DV a b (32 * i) r' q' := by
  obtain ⟨z, h1, r', q', rfl, h2⟩ := limL_ind (f := S91_7 L62 L102 L111) (fun x => (x.1.2.2.2.2.2.1 + 1).toNat)
    (fun x => ∃ (k : Nat) (r q : List Int), x = ((lim a, lim b, (), r, (i : Int), (k : Int) - 1, ()), (q, ())) ∧ k ≤ 32 ∧ DV a b (32 * i + k) r q)
    (fun z => ∃ r' q', z = ((lim a, lim b, (), r', (i : Int), ()), (q', ())) ∧ DV a b (32 * i) r' q') (by
    rintro x ⟨k, r, q, rfl, hk, hv⟩
    rcases Nat.eq_zero_or_pos k with rfl | hp
    · right
      refine ⟨_, ?_, r, q, rfl, hv⟩
      rw [S91_7_eq]
      rfl
    · left
      obtain ⟨k, rfl⟩ : ∃ k', k = k' + 1 := ⟨k - 1, by omega⟩
      obtain ⟨r', q', h3, h4⟩ := S91_7_step hb hla hlb hi (show k < 32 by omega) hv
      rw [show (k : Int) = ((k + 1 : Nat) : Int) - 1 by omega] at h3
      exact ⟨_, h3, ⟨k, r', q', by rw [show ((k + 1 : Nat) : Int) - 1 - 1 = (k : Int) - 1 by omega], by omega, h4⟩, by simp only; omega⟩) ((lim a, lim b, (), r, (i : Int), 31, ()), (q, ())) ⟨32, r, q, rfl, Nat.le_refl _, by rw [show 32 * i + 32 = 32 * (i + 1) by omega]; exact h⟩
  exact ⟨r', q', h1, h2⟩

/-- divide. -/
theorem L91_spec {a b : Nat} (hb : b ≠ 0) (hla : (lim a).length < 100000) (hlb : (lim b).length < 100000) : L91 (lim a, lim b, ()) = some ((lim (a / b), lim (a % b), ()), ()) := by
  obtain ⟨z, h1, r, q, rfl, hv⟩ := limL_ind (f := S91_4 Lg91_7) (fun x => (x.1.2.2.2.2.1 + 1).toNat)
    (fun x => ∃ (k : Nat) (r q : List Int), x = ((lim a, lim b, (), r, (k : Int) - 1, ()), (q, ())) ∧ k ≤ (lim a).length ∧ DV a b (32 * k) r q)
    (fun z => ∃ r q, z = (((), r, ()), (q, ())) ∧ DV a b 0 r q) (by
    rintro x ⟨k, r, q, rfl, hk, hv⟩
    rcases Nat.eq_zero_or_pos k with rfl | hp
    · right
      refine ⟨_, ?_, r, q, rfl, hv⟩
      rw [S91_4_eq]
      rfl
    · left
      obtain ⟨k, rfl⟩ : ∃ k', k = k' + 1 := ⟨k - 1, by omega⟩
      obtain ⟨r', q', h3, h4⟩ := Lg91_7_spec hb hla hlb (show k < (lim a).length by omega) hv
      have e := S91_4_eq Lg91_7 (lim a) (lim b) r (((k + 1 : Nat) : Int) - 1) q
      rw [show ((k + 1 : Nat) : Int) - 1 = (k : Int) by omega, h3] at e
      have p1 : (k : Int) ≥ 0 := by omega
      have e2 : IntKind.i64.wrap ((k : Int) - 1) = (k : Int) - 1 := wi (by omega) (by omega)
      simp only [decide_eq_true_eq, p1, if_true, Option.bind_some, e2] at e
      rw [show (k : Int) = ((k + 1 : Nat) : Int) - 1 by omega] at e
      exact ⟨_, e, ⟨k, r', q', by rw [show ((k + 1 : Nat) : Int) - 1 - 1 = (k : Int) - 1 by omega], by omega, h4⟩, by simp only; omega⟩) ((lim a, lim b, (), [], ((lim a).length : Int) - 1, ()), (List.replicate (lim a).length 0, ())) ⟨(lim a).length, _, _, rfl, Nat.le_refl _, by
      have hlt := lim_lt a
      rw [B_pow] at hlt
      refine ⟨?_, Wf.replicate _, by simp, ?_⟩
      · rw [Nat.div_eq_of_lt hlt, Nat.zero_mod, lim_zero]
      · rw [val_replicate, Nat.div_eq_of_lt hlt, Nat.zero_div, Nat.zero_mul]
        rfl⟩
  show F91 L50 Lg91_4 (lim a, lim b, ()) = _
  have e3 : IntKind.i64.wrap (((lim a).length : Int) - 1) = ((lim a).length : Int) - 1 := wi (by omega) (by omega)
  rw [F91_eq, if_pos (Int.le_refl _), if_pos (show ((lim a).length : Int) ≤ ((4294967296 : Nat) : Int) by omega), e3, Int.toNat_natCast]
  have h1 : Lg91_4 ((lim a, lim b, (), [], ((lim a).length : Int) - 1, ()), List.replicate (lim a).length 0, ()) = _ := h1
  rw [h1]
  simp only [Option.bind_some]
  obtain ⟨hr, wq, hlq, hq⟩ := hv
  rw [L50_spec wq (by omega), hq, hr]
  simp only [Option.bind_some, Int.toNat_natCast, Nat.pow_zero, Nat.div_one, Nat.mul_one]
end Go.Proofs.Rf
/- Quotients rounded down, in both texts. -/
namespace Go.Proofs.Rf
open Go Go.RowKit

theorem fl_unique {a b q r : Int} (h : r + b * q = a) (h1 : (0 ≤ r ∧ r < b) ∨ (b < r ∧ r ≤ 0)) : a.fdiv b = q ∧ a.fmod b = r := by
  rcases h1 with h1 | h1
  · exact (Int.fdiv_fmod_unique (by omega)).2 ⟨h, h1.1, h1.2⟩
  · exact (Int.fdiv_fmod_unique' (by omega)).2 ⟨h, h1.1, h1.2⟩

theorem floor_up {a b : Int} (hb : b ≠ 0) (hs : decide (a < 0) ≠ decide (b < 0)) (hr : a.natAbs % b.natAbs ≠ 0) :
    a.fdiv b = -((a.natAbs / b.natAbs + 1 : Nat) : Int) ∧ a.fmod b = sgn (decide (b < 0)) (b.natAbs - a.natAbs % b.natAbs) := by
  have h1 := Nat.div_add_mod a.natAbs b.natAbs
  have h2 := Nat.mod_lt a.natAbs (show b.natAbs > 0 by omega)
  have hs' : ¬ (a < 0 ↔ b < 0) := fun q => hs (decide_eq_decide.2 q)
  generalize a.natAbs / b.natAbs = Q at *
  generalize a.natAbs % b.natAbs = R at *
  have h3 : ((b.natAbs : Int)) * (Q : Int) + (R : Int) = (a.natAbs : Int) := by
    rw [← h1]
    simp only [Int.natCast_add, Int.natCast_mul]
  apply fl_unique
  · unfold sgn
    by_cases h : b < 0
    · rw [decide_eq_true h, if_pos rfl]
      have e1 : (b.natAbs : Int) = -b := by omega
      have e2 : (a.natAbs : Int) = a := by omega
      rw [e1, e2] at h3
      have e3 : ((b.natAbs - R : Nat) : Int) = -b - R := by omega
      rw [e3, Int.natCast_add]
      grind
    · rw [decide_eq_false h, if_neg (by decide)]
      have e1 : (b.natAbs : Int) = b := by omega
      have e2 : (a.natAbs : Int) = -a := by omega
      rw [e1, e2] at h3
      have e3 : ((b.natAbs - R : Nat) : Int) = b - R := by omega
      rw [e3, Int.natCast_add]
      grind
  · unfold sgn
    by_cases h : b < 0
    · rw [decide_eq_true h, if_pos rfl]
      omega
    · rw [decide_eq_false h, if_neg (by decide)]
      omega

theorem floor_same {a b : Int} (hb : b ≠ 0) (hs : decide (a < 0) = decide (b < 0) ∨ a.natAbs % b.natAbs = 0) :
    a.fdiv b = sgn (!(decide (a < 0) == decide (b < 0))) (a.natAbs / b.natAbs) ∧ a.fmod b = sgn (decide (b < 0)) (a.natAbs % b.natAbs) := by
  have h1 := Nat.div_add_mod a.natAbs b.natAbs
  have h2 := Nat.mod_lt a.natAbs (show b.natAbs > 0 by omega)
  generalize a.natAbs / b.natAbs = Q at *
  generalize a.natAbs % b.natAbs = R at *
  have h3 : ((b.natAbs : Int)) * (Q : Int) + (R : Int) = (a.natAbs : Int) := by
    rw [← h1]
    simp only [Int.natCast_add, Int.natCast_mul]
  apply fl_unique
  · unfold sgn
    by_cases h : b < 0
    · by_cases g : a < 0
      · rw [decide_eq_true h, decide_eq_true g]
        have e1 : (b.natAbs : Int) = -b := by omega
        have e2 : (a.natAbs : Int) = -a := by omega
        rw [e1, e2] at h3
        simp only [beq_self_eq_true, Bool.not_true, Bool.false_eq_true, if_false, if_true]
        grind
      · rw [decide_eq_true h, decide_eq_false g] at hs ⊢
        have hR : R = 0 := by
          rcases hs with hs | hs
          · cases hs
          · exact hs
        subst hR
        have e1 : (b.natAbs : Int) = -b := by omega
        have e2 : (a.natAbs : Int) = a := by omega
        rw [e1, e2] at h3
        simp only [show (!(false == true)) = true from rfl, if_true]
        grind
    · by_cases g : a < 0
      · rw [decide_eq_false h, decide_eq_true g] at hs ⊢
        have hR : R = 0 := by
          rcases hs with hs | hs
          · cases hs
          · exact hs
        subst hR
        have e1 : (b.natAbs : Int) = b := by omega
        have e2 : (a.natAbs : Int) = -a := by omega
        rw [e1, e2] at h3
        simp only [show (!(true == false)) = true from rfl, if_true, Bool.false_eq_true, if_false]
        grind
      · rw [decide_eq_false h, decide_eq_false g]
        have e1 : (b.natAbs : Int) = b := by omega
        have e2 : (a.natAbs : Int) = a := by omega
        rw [e1, e2] at h3
        simp only [beq_self_eq_true, Bool.not_true, Bool.false_eq_true, if_false]
        grind
  · unfold sgn
    by_cases h : b < 0
    · rw [decide_eq_true h, if_pos rfl]
      omega
    · rw [decide_eq_false h, if_neg (by decide)]
      omega

theorem lim_1 : lim 1 = [1] := by
  rw [lim_pos (by decide)]
  have : (1 : Nat) / 4294967296 = 0 := by decide
  rw [this, lim_zero]
  rfl

/-- The reference's floor. -/
theorem L74_spec {a b : Int} (hb : b ≠ 0) (ha : Sz 90000 a) (hbs : Sz 90000 b) : L74 (zl a, zl b, ()) = some (((res (a.fdiv b)).1, (res (a.fmod b)).1, ()), ()) := by
  unfold Sz at ha hbs
  have hq := lim_length_mono (Nat.div_le_self a.natAbs b.natAbs)
  have hr := lim_length_mono (Nat.mod_le a.natAbs b.natAbs)
  have hq1 := lim_add_length (a.natAbs / b.natAbs) 1
  have hl1 : (lim 1).length = 1 := by rw [lim_1]; rfl
  have hlt := Nat.mod_lt a.natAbs (show b.natAbs > 0 by omega)
  have hbr := lim_length_mono (Nat.sub_le b.natAbs (a.natAbs % b.natAbs))
  show F74 L48 L51 L91 L102 ((decide (a < 0), lim a.natAbs), (decide (b < 0), lim b.natAbs), ()) = _
  rw [F74_eq, L91_spec (by omega) (by omega) (by omega)]
  simp only [Option.bind_some]
  by_cases hs : decide (a < 0) = decide (b < 0)
  · have p : (!(decide (a < 0) == decide (b < 0))) = false := by rw [hs]; simp
    rw [p]
    simp only [Bool.false_eq_true, if_false]
    rw [L51_lim (by omega)]
    simp only [Option.bind_some]
    rw [L51_lim (by omega)]
    obtain ⟨f1, f2⟩ := floor_same hb (.inl hs)
    rw [p] at f1
    rw [f1, f2]
    rfl
  · have p : (!(decide (a < 0) == decide (b < 0))) = true := by
      rw [Bool.not_eq_true', beq_eq_false_iff_ne]
      exact hs
    rw [p]
    simp only [if_true]
    by_cases hR : a.natAbs % b.natAbs = 0
    · have p2 : ¬ decide (((lim (a.natAbs % b.natAbs)).length : Int) > 0) = true := by
        rw [hR, lim_zero]
        decide
      rw [if_neg p2, L51_lim (by omega)]
      simp only [Option.bind_some]
      rw [L51_lim (by omega)]
      obtain ⟨f1, f2⟩ := floor_same hb (.inr hR)
      rw [p] at f1
      rw [f1, f2]
      rfl
    · have p2 : decide (((lim (a.natAbs % b.natAbs)).length : Int) > 0) = true := by
        rw [decide_eq_true_eq]
        rcases Nat.eq_zero_or_pos (lim (a.natAbs % b.natAbs)).length with q | q
        · exact (hR (lim_eq_nil.1 (List.eq_nil_of_length_eq_zero q))).elim
        · omega
      rw [if_pos p2, ← lim_1, L48_spec' (by omega) (by omega)]
      simp only [Option.bind_some]
      rw [L102_spec (by omega) (by omega)]
      simp only [Option.bind_some]
      rw [L51_lim (by omega)]
      simp only [Option.bind_some]
      rw [L51_lim (by omega)]
      obtain ⟨f1, f2⟩ := floor_up hb hs hR
      rw [f1, f2]
      rfl

theorem fdiv_Sz {a b : Int} {k : Nat} (ha : Sz k a) : Sz k (a.fdiv b) := ha.le (Int.natAbs_fdiv_le_natAbs a b)

theorem res_ok {z : Int} (h : Sz 200 z) : res z = (zl z, 0) := by
  unfold res
  unfold Sz at h
  rw [if_neg (by omega)]
end Go.Proofs.Rf
/- The law of Arithmetic returns true. -/
namespace Go.Proofs.Rf
open Go Go.RowKit
theorem ne_zero_beq {e : Int} (h : e ≠ 0) : (!e == 0) = true := by
  rw [Bool.not_eq_true', beq_eq_false_iff_ne]
  exact h

theorem res_len (z : Int) : (res z).1.2.length ≤ 200 := by
  unfold res
  split
  · simp
  · simp only [zl_2]; omega

theorem zl_len {z : Int} {k : Nat} (h : Sz k z) : (zl z).2.length ≤ k := h

section
variable {x y : Int} (hx : Sz 200 x) (hy : Sz 200 y) (h : ers [zl x, zl y] = 0)
include hx hy h
end
section
variable {a b : Bool × List Int} (wa : Wf a.2) (wb : Wf b.2) (ha : a.2.length < 1000000) (hb : b.2.length < 1000000)
include wa wb ha hb
end
end Go.Proofs.Rf
/- Shift, in both texts. -/
namespace Go.Proofs.Rf
open Go Go.RowKit

theorem Wf_pow2 {s : Nat} (hs : s < 32) : IntKind.u32.wrap (1 * 2 ^ min (Int.toNat (s : Int)) 32) = ((2 ^ s : Nat) : Int) ∧ 0 < 2 ^ s ∧ 2 ^ s < 4294967296 := by
  have h1 : 2 ^ s < 2 ^ 32 := Nat.pow_lt_pow_right (by decide) hs
  have h2 : (1 : Int) * 2 ^ s = ((2 ^ s : Nat) : Int) := by simp
  refine ⟨?_, Nat.two_pow_pos s, h1⟩
  rw [Int.toNat_natCast, Nat.min_eq_left (by omega), h2, w32m]
  generalize 2 ^ s = t at *
  omega

/-- power2. -/
theorem L73_spec {n : Nat} (hn : n < 1000000) : L73 ((n : Int), ()) = some ((lim (2 ^ n), ()), ()) := by
  show F73 ((n : Int), ()) = _
  have e1 := wi_div (j := n) (by omega)
  have e2 : IntKind.i64.wrap (((n / 32 : Nat) : Int) + 1) = ((n / 32 + 1 : Nat) : Int) := by rw [wi (by omega) (by omega)]; omega
  have e3 := wi_mod n
  obtain ⟨e4, h0, h1⟩ := Wf_pow2 (s := n % 32) (by omega)
  have p1 : (0 : Int) ≤ ((n / 32 + 1 : Nat) : Int) := by omega
  have p2 : ((n / 32 + 1 : Nat) : Int) ≤ ((4294967296 : Nat) : Int) := by omega
  have p3 : ¬ ((n % 32 : Nat) : Int) < 0 := by omega
  have p4 : (0 : Int) ≤ ((n / 32 : Nat) : Int) := by omega
  have p5 : ((n / 32 : Nat) : Int) < ((List.replicate (n / 32 + 1) (0 : Int)).length : Int) := by rw [List.length_replicate]; omega
  rw [F73_eq]
  rw [e1, e2, e3, e4]
  rw [if_pos p1, if_pos (Int.le_refl _), if_pos p2, if_neg p3, if_pos p4]
  simp only [Int.toNat_natCast]
  rw [if_pos p5]
  have hw : Wf ((List.replicate (n / 32 + 1) (0 : Int)).set (n / 32) ((2 ^ (n % 32) : Nat) : Int)) := (Wf.replicate _).set _ (Int.natCast_nonneg _) (by omega)
  have hv : val ((List.replicate (n / 32 + 1) (0 : Int)).set (n / 32) ((2 ^ (n % 32) : Nat) : Int)) = ((2 ^ n : Nat) : Int) := by
    rw [val_set (by simp), val_replicate, List.getD_eq_getElem?_getD, List.getElem?_replicate, if_pos (by omega), Option.getD_some, Int.sub_zero, Int.zero_add, ← castB, B_pow, ← Int.natCast_mul, ← Nat.pow_add, show 32 * (n / 32) + n % 32 = n by omega]
  have ht := take_lim hw (n := n / 32 + 1) (by simp) (fun i h2 h3 => by simp at h3; omega) (fun _ => by
    rw [Nat.add_sub_cancel, getD_set, if_pos ⟨rfl, by simp⟩]
    omega)
  rw [List.take_of_length_le (by simp), hv, Int.toNat_natCast] at ht
  rw [ht]

theorem two_pow_zl (n : Nat) : ((false, lim (2 ^ n)) : Bool × List Int) = zl ((2 ^ n : Nat) : Int) := by
  unfold zl
  rw [decide_eq_false (Int.not_lt.2 (Int.natCast_nonneg (2 ^ n))), Int.natAbs_natCast]

theorem lim_pow_length {n k : Nat} (h : n < 32 * k) : (lim (2 ^ n)).length ≤ k := lim_length_of (by rw [B_pow]; exact Nat.pow_lt_pow_right (by decide) h)

theorem sgn_mul_pow (z : Int) (n : Nat) : sgn (decide (z < 0)) (z.natAbs * n) = z * (n : Int) := by
  unfold sgn
  by_cases h : z < 0
  · rw [decide_eq_true h, if_pos rfl]
    obtain ⟨m, rfl⟩ : ∃ m : Nat, z = -(m : Int) := ⟨z.natAbs, by omega⟩
    rw [Int.natAbs_neg, Int.natAbs_natCast, Int.natCast_mul]
    grind
  · rw [decide_eq_false h, if_neg (by decide)]
    obtain ⟨m, rfl⟩ : ∃ m : Nat, z = (m : Int) := ⟨z.natAbs, by omega⟩
    rw [Int.natAbs_natCast, Int.natCast_mul]

/-- What Shift comes to. -/
def shf (z n : Int) : (Bool × List Int) × Int := if 0 ≤ n then res (z * ((2 ^ n.toNat : Nat) : Int)) else (zl (z.fdiv ((2 ^ (-n).toNat : Nat) : Int)), 0)

theorem L24_spec {z n : Int} (hz : Sz 200 z) (hn : -10000 ≤ n) (hn1 : n ≤ 10000) : L24 (zl z, n, ()) = some (((shf z n).1, (shf z n).2, ()), ()) := by
  have hz0 := hz
  unfold Sz at hz
  show F24 L23 L49 L51 L73 L74 ((decide (z < 0), lim z.natAbs), n, ()) = _
  rw [F24_eq, L23_spec (by omega), err_zl hz]
  simp only [Option.bind_some]
  have p1 : ¬ n < -10000 := by omega
  have p2 : ¬ n > 10000 := by omega
  rw [if_neg (by decide), if_neg (by rw [decide_eq_true_eq]; exact p1), if_neg (by rw [decide_eq_true_eq]; exact p2)]
  unfold shf
  by_cases h : 0 ≤ n
  · rw [if_pos (by rw [decide_eq_true_eq]; exact h), if_pos h]
    obtain ⟨m, rfl⟩ := Int.eq_ofNat_of_zero_le h
    rw [Int.toNat_natCast, L73_spec (by omega)]
    simp only [Option.bind_some]
    have hl : (lim (2 ^ m)).length ≤ 400 := lim_pow_length (by omega)
    have hl2 := lim_mul_length z.natAbs (2 ^ m)
    rw [L49_spec' (by omega) (by omega)]
    simp only [Option.bind_some]
    rw [L51_lim (by omega), sgn_mul_pow]
    rfl
  · rw [if_neg (by rw [decide_eq_true_eq]; exact h), if_neg h]
    obtain ⟨m, rfl⟩ : ∃ m : Nat, n = -(m : Int) := ⟨(-n).toNat, by omega⟩
    have e1 : IntKind.i64.wrap (0 - -(m : Int)) = (m : Int) := by rw [wi (by omega) (by omega)]; omega
    rw [e1, L73_spec (by omega), show (- -(m : Int)).toNat = m by omega]
    simp only [Option.bind_some]
    have hl : (lim (2 ^ m)).length ≤ 400 := lim_pow_length (by omega)
    have hp := Nat.two_pow_pos m
    rw [two_pow_zl, show (decide (z < 0), lim z.natAbs) = zl z from rfl, L74_spec (by omega) (hz0.mono (by decide)) (by unfold Sz; rw [Int.natAbs_natCast]; omega), res_ok (fdiv_Sz hz0)]
    rfl

theorem L25_spec {z n : Int} (hz : Sz 200 z) (hn : -10000 ≤ n) (hn1 : n ≤ 10000) : L25 (zl z, n, ()) = some (((shf z n).1, (shf z n).2, ()), ()) := by
  have hz0 := hz
  unfold Sz at hz
  show F25 L22 L52 L53 L58 L59 L61 L63 L75 L76 L77 ((decide (z < 0), lim z.natAbs), n, ()) = _
  have p1 : ¬ n < -10000 := by omega
  have p2 : ¬ n > 10000 := by omega
  rw [F25_eq, L22_spec (by omega), err_zl hz]
  simp only [Option.bind_some]
  rw [if_neg (by rw [decide_eq_true_eq]; exact p1), decide_eq_false p2, L53_spec]
  simp only [Option.bind_some, Bool.false_eq_true, if_false]
  rw [L52_two]
  simp only [Option.bind_some, fst2, if_true]
  rw [if_neg (by decide), L63_at]
  simp only [Option.bind_some]
  unfold shf
  by_cases h : 0 ≤ n
  · rw [if_pos (by rw [decide_eq_true_eq]; exact h), if_pos h]
    obtain ⟨m, rfl⟩ := Int.eq_ofNat_of_zero_le h
    rw [Int.toNat_natCast, L76_spec (by omega) (by omega)]
    simp only [Option.bind_some]
    have hl : (lim (2 ^ m)).length ≤ 400 := lim_pow_length (by omega)
    have hl2 := lim_mul_length z.natAbs (2 ^ m)
    rw [L61_gen (by omega)]
    simp only [Option.bind_some, pe]
    rw [L75_spec, sgn_mul_pow]
    rfl
  · rw [if_neg (by rw [decide_eq_true_eq]; exact h), if_neg h]
    obtain ⟨m, rfl⟩ : ∃ m : Nat, n = -(m : Int) := ⟨(-n).toNat, by omega⟩
    have e1 : IntKind.i64.wrap (0 - -(m : Int)) = (m : Int) := by rw [wi (by omega) (by omega)]; omega
    rw [e1, show (- -(m : Int)).toNat = m by omega, L77_spec (by omega) (by omega)]
    simp only [Option.bind_some]
    have hp := Nat.two_pow_pos m
    have hq := lim_length_mono (Nat.div_le_self z.natAbs (2 ^ m))
    have hq1 := lim_add_length (z.natAbs / 2 ^ m) 1
    have hl1 : (lim 1).length = 1 := by rw [lim_1]; rfl
    have hb : ((2 ^ m : Nat) : Int) ≠ 0 := by omega
    have hnb : decide (((2 ^ m : Nat) : Int) < 0) = false := decide_eq_false (by omega)
    have hna : ((2 ^ m : Nat) : Int).natAbs = 2 ^ m := Int.natAbs_natCast _
    have hres : res (z.fdiv ((2 ^ m : Nat) : Int)) = (zl (z.fdiv ((2 ^ m : Nat) : Int)), 0) := res_ok (fdiv_Sz hz0)
    by_cases hneg : z < 0
    · rw [decide_eq_true hneg]
      simp only [if_true]
      by_cases hR : z.natAbs % 2 ^ m = 0
      · obtain ⟨f1, f2⟩ := floor_same (a := z) hb (.inr (by rw [hna]; exact hR))
        rw [hnb, hna, decide_eq_true hneg] at f1
        have f1 : z.fdiv ((2 ^ m : Nat) : Int) = sgn true (z.natAbs / 2 ^ m) := f1
        have p3 : ¬ decide (z.natAbs % 2 ^ m ≠ 0) = true := by rw [decide_eq_true_eq]; omega
        rw [if_neg p3, L61_gen (by omega)]
        simp only [Option.bind_some, pe]
        rw [L75_spec, ← f1, hres]
        rfl
      · obtain ⟨f1, f2⟩ := floor_up (a := z) hb (by rw [hnb, decide_eq_true hneg]; decide) (by rw [hna]; exact hR)
        rw [hna] at f1
        have f1 : z.fdiv ((2 ^ m : Nat) : Int) = sgn true (z.natAbs / 2 ^ m + 1) := f1
        have p3 : decide (z.natAbs % 2 ^ m ≠ 0) = true := decide_eq_true hR
        rw [if_pos p3, L58_spec (by decide) (by decide)]
        simp only [Option.bind_some]
        rw [show (1 : Int).toNat = 1 from rfl, L59_spec' (by omega) (by omega)]
        simp only [Option.bind_some]
        rw [L61_gen (by omega)]
        simp only [Option.bind_some, pe]
        rw [L75_spec, ← f1, hres]
        rfl
    · rw [decide_eq_false hneg]
      simp only [Bool.false_eq_true, if_false]
      obtain ⟨f1, f2⟩ := floor_same (a := z) hb (.inl (by rw [hnb, decide_eq_false hneg]))
      rw [hnb, hna, decide_eq_false hneg] at f1
      have f1 : z.fdiv ((2 ^ m : Nat) : Int) = sgn false (z.natAbs / 2 ^ m) := f1
      rw [L61_gen (by omega)]
      simp only [Option.bind_some, pe]
      rw [L75_spec, ← f1, hres]
      rfl

theorem L24_err {neg : Bool} {a : List Int} {n : Int} (hl : a.length < 1000000000) (h : fst2 (err neg a) (if -10000 ≤ n ∧ n ≤ 10000 then 0 else 3) ≠ 0) :
    L24 ((neg, a), n, ()) = some (((false, []), fst2 (err neg a) (if -10000 ≤ n ∧ n ≤ 10000 then 0 else 3), ()), ()) := by
  show F24 L23 L49 L51 L73 L74 ((neg, a), n, ()) = _
  rw [F24_eq, L23_spec (by omega)]
  simp only [Option.bind_some]
  unfold fst2 at h ⊢
  by_cases h0 : err neg a = 0
  · rw [h0] at h ⊢
    simp only [if_true] at h ⊢
    rw [if_neg (by decide)]
    by_cases h1 : n < -10000
    · have p : ¬ (-10000 ≤ n ∧ n ≤ 10000) := by omega
      rw [if_pos (by rw [decide_eq_true_eq]; exact h1), if_neg p]
    · by_cases h2 : n > 10000
      · have p : ¬ (-10000 ≤ n ∧ n ≤ 10000) := by omega
        rw [if_neg (by rw [decide_eq_true_eq]; exact h1), if_pos (by rw [decide_eq_true_eq]; exact h2), if_neg p]
      · have p : (-10000 ≤ n ∧ n ≤ 10000) := by omega
        rw [if_pos p] at h
        exact (h rfl).elim
  · rw [if_neg h0, if_pos (ne_zero_beq h0)]

theorem L25_err {neg : Bool} {a : List Int} {n : Int} (hl : a.length < 1000000000) (h : fst2 (err neg a) (if -10000 ≤ n ∧ n ≤ 10000 then 0 else 3) ≠ 0) :
    L25 ((neg, a), n, ()) = some (((false, []), fst2 (err neg a) (if -10000 ≤ n ∧ n ≤ 10000 then 0 else 3), ()), ()) := by
  show F25 L22 L52 L53 L58 L59 L61 L63 L75 L76 L77 ((neg, a), n, ()) = _
  rw [F25_eq, L22_spec (by omega)]
  simp only [Option.bind_some]
  by_cases h1 : n < -10000
  · have p : ¬ (-10000 ≤ n ∧ n ≤ 10000) := by omega
    rw [if_neg p] at h ⊢
    rw [if_pos (by rw [decide_eq_true_eq]; exact h1), L53_spec]
    simp only [Option.bind_some, if_true]
    rw [L52_two]
    simp only [Option.bind_some]
    rw [if_pos (ne_zero_beq h)]
  · rw [if_neg (by rw [decide_eq_true_eq]; exact h1), L53_spec]
    simp only [Option.bind_some]
    have e : (if decide (n > 10000) = true then (3 : Int) else 0) = if -10000 ≤ n ∧ n ≤ 10000 then 0 else 3 := by
      by_cases h2 : n > 10000
      · rw [if_pos (decide_eq_true h2), if_neg (by omega)]
      · rw [if_neg (by rw [decide_eq_true_eq]; exact h2), if_pos (by omega)]
    rw [e, L52_two]
    simp only [Option.bind_some]
    rw [if_pos (ne_zero_beq h)]

theorem shf_len {z n : Int} (hz : Sz 200 z) : (shf z n).1.2.length < 1000000000 := by
  unfold shf
  split
  · exact Nat.lt_of_le_of_lt (res_len _) (by decide)
  · exact Nat.lt_of_le_of_lt (zl_len (fdiv_Sz hz)) (by decide)

theorem shift_same {neg : Bool} {a : List Int} (hw : Wf a) (hl : a.length < 1000000000) (n : Int) :
    ∃ m l e, L24 ((neg, a), n, ()) = some (((m, l), e, ()), ()) ∧ L25 ((neg, a), n, ()) = some (((m, l), e, ()), ()) ∧ l.length < 1000000000 := by
  by_cases h : fst2 (err neg a) (if -10000 ≤ n ∧ n ≤ 10000 then 0 else 3) = 0
  · have h1 : err neg a = 0 := by
      unfold fst2 at h
      split at h
      · assumption
      · exact h
    have h2 : -10000 ≤ n ∧ n ≤ 10000 := by
      unfold fst2 at h
      rw [if_pos h1] at h
      by_cases q : -10000 ≤ n ∧ n ≤ 10000
      · exact q
      · rw [if_neg q] at h
        cases h
    obtain ⟨z, hz, hlen⟩ := err_zero hw h1
    have hz2 : Sz 200 z := by
      have : a = lim z.natAbs := (Prod.mk.inj hz).2
      unfold Sz
      rw [← this]
      exact hlen
    rw [hz]
    exact ⟨_, _, _, L24_spec hz2 h2.1 h2.2, L25_spec hz2 h2.1 h2.2, shf_len hz2⟩
  · exact ⟨_, _, _, L24_err hl h, L25_err hl h, by decide⟩
end Go.Proofs.Rf
/- Root, in both texts. -/
namespace Go.Proofs.Rf
open Go Go.RowKit

/-- The greatest number whose square is not above. -/
def IsRoot (n r : Nat) : Prop := r * r ≤ n ∧ n < (r + 1) * (r + 1)

theorem IsRoot.unique {n r s : Nat} (h : IsRoot n r) (k : IsRoot n s) : r = s := by
  rcases Nat.lt_trichotomy r s with q | q | q
  · exfalso
    have := Nat.mul_le_mul (show r + 1 ≤ s from q) (show r + 1 ≤ s from q)
    have := h.2
    have := k.1
    omega
  · exact q
  · exfalso
    have := Nat.mul_le_mul (show s + 1 ≤ r from q) (show s + 1 ≤ r from q)
    have := k.2
    have := h.1
    omega

/-- A step from above stays above. -/
theorem newton {n x : Nat} (hx : 0 < x) : n < ((x + n / x) / 2 + 1) * ((x + n / x) / 2 + 1) := by
  have h1 := Nat.lt_div_mul_add (a := n) hx
  generalize n / x = q at *
  have h2 : x + q + 1 ≤ 2 * ((x + q) / 2 + 1) := by omega
  generalize (x + q) / 2 + 1 = m at *
  have h3 : (x + q + 1) * (x + q + 1) ≤ 2 * m * (2 * m) := Nat.mul_le_mul h2 h2
  have h4 : 4 * (q * x + x) ≤ (x + q + 1) * (x + q + 1) := by
    have h5 : ((x : Int) - ((q : Int) + 1)) * ((x : Int) - ((q : Int) + 1)) ≥ 0 := by
      rcases Int.le_total 0 ((x : Int) - ((q : Int) + 1)) with q' | q'
      · exact Int.mul_nonneg q' q'
      · have := Int.mul_nonneg (Int.neg_nonneg_of_nonpos q') (Int.neg_nonneg_of_nonpos q')
        grind
    have h6 : ((4 * (q * x + x) : Nat) : Int) ≤ (((x + q + 1) * (x + q + 1) : Nat) : Int) := by
      simp only [Int.natCast_mul, Int.natCast_add]
      grind
    exact Int.ofNat_le.1 h6
  have h7 : 2 * m * (2 * m) = 4 * (m * m) := by grind
  omega

theorem Lg27_8_spec {n x0 : Nat} {b : Bool} {l : List Int} (hn : n ≠ 0) (hnl : (lim n).length ≤ 1000) (hx0 : 0 < x0) (hxl : (lim x0).length ≤ 1000) (hab : n < (x0 + 1) * (x0 + 1)) :
    ∃ r, IsRoot n r ∧ (lim r).length ≤ 1000 ∧ Lg27_8 (((), lim n, lim x0, ()), ((b, l, ()), ())) = some (((), 0, ()), ((zl (r : Int)).1, (zl (r : Int)).2, ()), ()) := by
  obtain ⟨z, h1, r, hr, hrl, rfl⟩ := limL_ind (f := S27_8 L59 L61 L77 L78 L79) (fun x => (val x.1.2.2.1).toNat)
    (fun s => ∃ x : Nat, s = (((), lim n, lim x, ()), ((b, l, ()), ())) ∧ 0 < x ∧ x ≤ x0 ∧ n < (x + 1) * (x + 1))
    (fun z => ∃ r, IsRoot n r ∧ (lim r).length ≤ 1000 ∧ z = (((), 0, ()), ((zl (r : Int)).1, (zl (r : Int)).2, ()), ())) (by
    rintro s ⟨x, rfl, hx, hxx, hlt⟩
    have hl := lim_length_mono hxx
    have hq := lim_length_mono (Nat.div_le_self n x)
    have hs := lim_add_length x (n / x)
    have e := S27_8_eq L59 L61 L77 L78 L79 (lim n) (lim x) b l
    rw [L78_spec (by omega) (by omega) (by omega)] at e
    simp only [Option.bind_some] at e
    rw [L59_spec' (by omega) (by omega)] at e
    simp only [Option.bind_some] at e
    have h77 : L77 (lim (x + n / x), 1, ()) = _ := L77_spec (a := x + n / x) (n := 1) (by omega) (by decide)
    rw [h77, Nat.pow_one] at e
    simp only [Option.bind_some] at e
    have hnx := newton (n := n) hx
    have hm := lim_length_mono (Nat.div_le_self (x + n / x) 2)
    obtain ⟨c, h79, hc, _⟩ := L79_spec (a := (x + n / x) / 2) (b := x) (by omega) (by omega)
    rw [h79] at e
    simp only [Option.bind_some] at e
    by_cases hge : c ≥ 0
    · right
      rw [if_pos (by rw [decide_eq_true_eq]; exact hge), L61_gen (by omega)] at e
      simp only [Option.bind_some] at e
      refine ⟨_, e, x, ⟨?_, hlt⟩, by omega, rfl⟩
      have h2 : ¬ (x + n / x) / 2 < x := fun q => by have := hc.2 q; omega
      have h3 : x ≤ n / x := by omega
      have h4 := Nat.div_mul_le_self n x
      have h5 := Nat.mul_le_mul_right x h3
      omega
    · left
      rw [if_neg (by rw [decide_eq_true_eq]; exact hge)] at e
      have h2 : (x + n / x) / 2 < x := hc.1 (by omega)
      refine ⟨_, e, ⟨(x + n / x) / 2, rfl, ?_, by omega, hnx⟩, by simp only [val_lim]; omega⟩
      rcases Nat.eq_zero_or_pos ((x + n / x) / 2) with q | q
      · rw [q] at hnx
        omega
      · exact q) (((), lim n, lim x0, ()), ((b, l, ()), ())) ⟨x0, rfl, hx0, Nat.le_refl _, hab⟩
  exact ⟨r, hr, hrl, h1⟩

theorem bl_le_len (n : Nat) : bl n ≤ 32 * (lim n).length := by
  have := lim_lt n
  rw [B_pow] at this
  exact bl_le_of this

theorem L27_spec {n : Nat} (hl : (lim n).length ≤ 200) : ∃ r, IsRoot n r ∧ L27 (zl (n : Int), ()) = some ((zl (r : Int), 0, ()), ()) := by
  have q : ∃ r, IsRoot n r ∧ F27 L22 L52 L53 L58 L63 L69 L76 Lg27_8 ((decide ((n : Int) < 0), lim (n : Int).natAbs), ()) = some ((zl (r : Int), 0, ()), ()) := by
    have hl' : (lim (n : Int).natAbs).length ≤ 200 := by rw [Int.natAbs_natCast]; exact hl
    rw [F27_eq, L22_spec (by omega), err_zl hl', decide_eq_false (Int.not_lt.2 (Int.natCast_nonneg n)), L53_spec]
    simp only [Option.bind_some, Bool.false_eq_true, if_false]
    rw [L52_two]
    simp only [Option.bind_some, fst2, if_true]
    rw [if_neg (by decide), L63_at]
    simp only [Option.bind_some, Int.natAbs_natCast]
    by_cases h0 : n = 0
    · subst h0
      rw [if_pos (by rw [lim_zero]; rfl)]
      refine ⟨0, ⟨by decide, by decide⟩, ?_⟩
      unfold zl
      rw [show ((0 : Nat) : Int).natAbs = 0 from rfl, lim_zero]
      rfl
    · have p : ¬ (((lim n).length : Int) == 0) = true := by
        rw [beq_iff_eq]
        intro q
        exact h0 (lim_eq_nil.1 (List.eq_nil_of_length_eq_zero (by omega)))
      have hb := bl_le_len n
      have hlt := bl_lt n
      rw [if_neg p, L58_spec (by decide) (by decide)]
      simp only [Option.bind_some]
      rw [L69_spec (by omega)]
      simp only [Option.bind_some]
      have e1 : IntKind.i64.wrap (Int.tdiv (IntKind.i64.wrap ((bl n : Int) + 1)) 2) = (((bl n + 1) / 2 : Nat) : Int) := by
        rw [wi (n := (bl n : Int) + 1) (by omega) (by omega), Int.tdiv_eq_ediv_of_nonneg (by omega), wi (by omega) (by omega)]
        omega
      have hl1 : (lim 1).length = 1 := by rw [lim_1]; rfl
      rw [e1, show (1 : Int).toNat = 1 from rfl, L76_spec (by omega) (by omega)]
      simp only [Option.bind_some, Nat.one_mul]
      have hxl : (lim (2 ^ ((bl n + 1) / 2))).length ≤ 201 := lim_pow_length (by omega)
      have hsq : n < (2 ^ ((bl n + 1) / 2) + 1) * (2 ^ ((bl n + 1) / 2) + 1) := by
        have h2 : 2 ^ bl n ≤ 2 ^ ((bl n + 1) / 2) * 2 ^ ((bl n + 1) / 2) := by
          rw [← Nat.pow_add]
          exact Nat.pow_le_pow_right (by decide) (by omega)
        generalize 2 ^ ((bl n + 1) / 2) = x at *
        have h3 : (x + 1) * (x + 1) = x * x + 2 * x + 1 := by grind
        omega
      obtain ⟨r, hr, _, h4⟩ := Lg27_8_spec (b := false) (l := []) h0 (by omega) (Nat.two_pow_pos _) (by omega) hsq
      rw [h4]
      exact ⟨r, hr, rfl⟩
  exact q

/-! ### The reference -/
theorem Lg49B_spec {a b : List Int} (wa : Wf a) (wb : Wf b) (sa : Sm a) (sb : Sm b) : ∃ r, Lg49B_3 ((a, b, (), 0, ()), (List.replicate (a.length + b.length) 0, ())) = some (((), ()), (r, ())) ∧ OuterOK a b a.length r := by
  have sa' := sa
  have sb' := sb
  unfold Sm at sa sb
  obtain ⟨z, h1, r, rfl, hO⟩ := limL_ind (f := S49_3 (limL S49_7)) (fun x => a.length - x.1.2.2.2.1.toNat)
    (fun x => ∃ (i : Nat) (r : List Int), x = ((a, b, (), (i : Int), ()), (r, ())) ∧ i ≤ a.length ∧ OuterOK a b i r)
    (fun z => ∃ r : List Int, z = (((), ()), (r, ())) ∧ OuterOK a b a.length r) (by
    rintro x ⟨i, r, rfl, hi, hO⟩
    by_cases hd : i < a.length
    · left
      obtain ⟨c, r', q1, q2⟩ := S49_7_spec wa wb sa' sb' hO.wf hO.len hd
      refine ⟨_, ?_, ⟨i + 1, _, rfl, by omega, hO.step q2 hd⟩, by simp only [Int.toNat_natCast]; omega⟩
      have hl := hO.len
      have hl' := q2.len
      have hc := q2.c0
      have hc1 := q2.c1
      rw [S49_3_eq]
      simp only [decide_eq_true_eq, Int.ofNat_lt, hd, if_true]
      rw [q1]
      have e0 : IntKind.i64.wrap ((i : Int) + (b.length : Int)) = ((i + b.length : Nat) : Int) := by rw [wi (by omega) (by omega)]; omega
      have e7 : IntKind.i64.wrap ((i : Int) + 1) = ((i + 1 : Nat) : Int) := by rw [wi (by omega) (by omega)]; omega
      have m1 : IntKind.u32.wrap c = c := w32 (by omega) (by omega)
      simp only [Option.bind_some, e0, e7, m1, Int.toNat_natCast]
      rw [if_pos (by omega), if_pos (by omega)]
    · right
      have hia : i = a.length := by omega
      subst hia
      refine ⟨(((), ()), (r, ())), ?_, r, rfl, hO⟩
      rw [S49_3_eq]
      simp only [decide_eq_true_eq, Int.ofNat_lt, Nat.lt_irrefl, if_false]) ((a, b, (), ((0 : Nat) : Int), ()), (List.replicate (a.length + b.length) 0, ())) ⟨0, _, rfl, by omega, OuterOK.zero a b⟩
  exact ⟨r, h1, hO⟩

theorem L49B_spec {x : Nat} (hl : (lim x).length < 1000000) : ∃ (k : Nat) (r : List Int), L49B (lim x, lim x, ()) = some (((k, ()), (r, ()))) ∧ r.take k = lim (x * x) := by
  obtain ⟨r, h1, hO⟩ := Lg49B_spec (Wf_lim x) (Wf_lim x) (show Sm _ by unfold Sm; omega) (show Sm _ by unfold Sm; omega)
  have hw : IntKind.i64.wrap (((lim x).length : Int) + ((lim x).length : Int)) = (((lim x).length + (lim x).length : Nat) : Int) := by rw [wi (by omega) (by omega)]; omega
  have p1 : (0 : Int) ≤ (((lim x).length + (lim x).length : Nat) : Int) := by omega
  have p2 : (((lim x).length + (lim x).length : Nat) : Int) ≤ ((4294967296 : Nat) : Int) := by omega
  have hlen := hO.len
  have hv := hO.vl
  rw [val_take_all (Nat.le_refl _), val_lim, ← Int.natCast_mul] at hv
  obtain ⟨k, h2, h3⟩ := L50B_spec hO.wf (by omega)
  refine ⟨k, r, ?_, ?_⟩
  · show F49B L50B Lg49B_3 (lim x, lim x, ()) = _
    rw [F49B_eq, hw, if_pos p1, if_pos (Int.le_refl _), if_pos p2, Int.toNat_natCast, h1]
    simp only [Option.bind_some]
    rw [h2]
    rfl
  · rw [h3, hv, Int.toNat_natCast]
end Go.Proofs.Rf
/- Rf, part H: from a law's contract to what a given statement asks of its walk. -/
namespace Go.Proofs.Rf
open Go Go.RowKit

def iNone : Nat → Option Value := fun _ => none
def cDead : Nat → Blk := fun _ => .dead

theorem owned_none {ι : Nat → Option Value} {b : Nat} : ¬ owned ι cDead b := by
  rintro ⟨k, hk⟩
  rw [bk_dead rfl] at hk
  cases hk

/-- A world of which nothing is the call's own. -/
theorem HRel.start (w : World) : HRel (fun _ => False) (fun b => b < w.heap.size) w iNone cDead w :=
  ⟨fun k => trivial, fun k k' b h1 _ => (by rw [bk_dead rfl] at h1; cases h1), Kept.refl _ _, fun b hb => (owned_none hb).elim, fun b hb => hb, fun b hb => (owned_none hb).elim, fun b hb => hb.elim⟩

/-- A law that is handed data and returns true. -/
theorem law_walk {P : Program} {f : Nat} {ps : List SV} {F : SV.denL ps → Option (Shape.den ⟨[(0, .d false .bool)], []⟩)} (h : CallOK P f (mkCall ps ⟨[(0, .d false .bool)], []⟩ F)) (w : World) {args : List AV} {vs : List Value} {x : SV.denL ps} {fz : List (Nat × Blk)}
    (ht : SV.takeL cDead [] ps args = some (x, fz)) (hF : F x = some ((true, ()), ())) (hrel : RelL w (fun b => b < w.heap.size) iNone args vs) : Calls P f vs.toArray w fun e w' => e = .returned (.bool true) ∧ Below w.heap.size w w' := by
  have hok : okb (fun _ => False) w iNone cDead = fun b => b < w.heap.size := by
    funext b
    exact propext ⟨fun q => q.1, fun q => ⟨q, owned_none, fun q => q⟩⟩
  have hco : mkCall ps ⟨[(0, .d false .bool)], []⟩ F args cDead 0 Eff some = some ⟨.d .bool true, [], []⟩ := by
    unfold mkCall
    rw [ht]
    simp only [hF]
    rfl
  refine (h.run _ _ w w iNone cDead 0 args vs _ (HRel.start w) (by rw [hok]; exact hrel) hco (fun _ _ _ => rfl)).mono ?_
  rintro e w' ⟨v, rfl, ι', H, E, hv, _⟩
  have hv := rel_bool.1 hv
  exact ⟨by rw [hv], H.fr.os, H.fr.tape, H.fr.output, H.fr.size, fun i hi => H.fr.block i hi hi⟩
end Go.Proofs.Rf
/- Rf, part I: what a given statement hands to a law: data of the law's types, read off the world; and how it reads behind the call. -/
namespace Go.Proofs.Rf
open Go Go.RowKit Go.ChangeShapes Go.WideShapes

/-- A kind of numbers holds a number. -/
def fitK (k : IntKind) (n : Int) : Prop := k.min ≤ n ∧ n ≤ k.max

/-- Numbers fit their kinds; what is long is not too long. -/
def Ty.fit : (t : Ty) → t.den → Prop
  | .int k, n => fitK k n
  | .str, s => s.length ≤ maxLen
  | .sl t, xs => xs.length ≤ maxLen ∧ ∀ x ∈ xs, t.fit x
  | .pr a b, x => a.fit x.1 ∧ b.fit x.2
  | _, _ => True

def tyFs (g : Nat → Option Ty) (c : Nat → Nat) : Nat → List Field → Option (List Ty)
  | _, [] => some []
  | o, f :: r => match g f.type with
    | some ty => if (Nat.beq f.offset o && Nat.beq (c f.type) ty.size) = true then (match tyFs g c (o + ty.size) r with
      | some ts => some (ty :: ts)
      | none => none) else none
    | none => none

/-- The shape of data of a type, where its parts lie one behind the other. -/
def goodTy (P : Program) : Nat → Nat → Option Ty
  | 0, _ => none
  | k + 1, t => match P.underlying t with
    | some (.int i) => some (.int i)
    | some .bool => some .bool
    | some .string => some .str
    | some (.slice e) => (match goodTy P k e with
      | some ty => if (Nat.blt 0 ty.size && Nat.beq (P.cellsOf e) ty.size) = true then some (.sl ty) else none
      | none => none)
    | some (.struct fields) => (match tyFs (goodTy P k) P.cellsOf 0 fields.toList with
      | some ts => if Nat.beq (P.cellsOf t) (prL ts).size = true then some (prL ts) else none
      | none => none)
    | _ => none

section
variable {H : Type} {enc : TypeId × Value → H} {P : Program} {w : World} {sp : Nat → Bool} {held : Bool}

theorem cells_get {a : Addr} {n : Nat} {cs : List Value} (h : w.cells? 0 a n = some cs) : cs.length = n ∧ ∀ j u, cs[j]? = some u → w.cell? (a.add j) = some u := by
  unfold World.cells? at h
  rw [if_pos (Nat.zero_le _)] at h
  have hl := mapM_some_length h
  rw [List.length_range] at hl
  refine ⟨hl, fun j u hu => ?_⟩
  have hj : j < n := by
    rw [← hl]
    exact (List.getElem?_eq_some_iff.1 hu).1
  have := mapM_some_get h j j (by simp [hj])
  rw [hu] at this
  exact this

theorem add_plain (g o j : Nat) : Addr.add ⟨g, o, none⟩ j = ⟨g, o + j, none⟩ := by
  unfold Addr.add
  split
  · rename_i h
    rw [h]; rfl
  · rfl

theorem add_two (a : Addr) {m r j : Nat} (h : m + r = j) : (a.add m).add r = a.add j := by
  subst h
  unfold Addr.add
  by_cases h1 : m = 0
  · subst h1
    simp
  · by_cases h2 : r = 0
    · subst h2
      simp [h1]
    · rw [if_neg h1, if_neg h2, if_neg (by omega), Nat.add_assoc]

theorem cell_place {a : Addr} {u : Value} (h : w.cell? a = some u) : a.spot = none ∧ a.block < w.heap.size := by
  refine ⟨World.cell?_spot h, ?_⟩
  unfold World.cell? at h
  split at h
  · rename_i h1
    exact (Array.getElem?_eq_some_iff.1 h1).1
  · cases h

/-- A row of equal parts. -/
theorem rowL {α : Type} {D : α → List Value → Prop} {Q : α → Prop} {n : Nat} (at_ : Nat → Option (List Value)) : ∀ (len k : Nat), (∀ i, i < len → ∃ cs x, at_ (k + i) = some cs ∧ cs.length = n ∧ D x cs ∧ Q x) →
    ∃ (xs : List α) (cs : List Value), xs.length = len ∧ RzL D xs cs ∧ cs.length = len * n ∧ (∀ x ∈ xs, Q x) ∧ ∀ i j c, i < len → at_ (k + i) = some c → j < n → cs[i * n + j]? = c[j]?
  | 0, k, _ => ⟨[], [], rfl, rfl, by simp, by simp, fun i j c hi => by omega⟩
  | len + 1, k, h => by
    obtain ⟨c0, x0, h0, hl0, hd0, hq0⟩ := h 0 (by omega)
    obtain ⟨xs, cs, hxl, hr, hcl, hq, hg⟩ := rowL at_ len (k + 1) (fun i hi => by
      obtain ⟨c, x, h1, h2⟩ := h (i + 1) (by omega)
      exact ⟨c, x, by rw [show k + 1 + i = k + (i + 1) by omega]; exact h1, h2⟩)
    refine ⟨x0 :: xs, c0 ++ cs, by simp [hxl], ⟨c0, cs, rfl, hd0, hr⟩, by rw [List.length_append, hl0, hcl, Nat.add_mul]; omega, ?_, ?_⟩
    · intro x hx
      rcases List.mem_cons.1 hx with rfl | hx
      · exact hq0
      · exact hq x hx
    · intro i j c hi hc hj
      cases i with
      | zero =>
        rw [Nat.add_zero] at h0 hc
        rw [h0] at hc
        cases hc
        rw [Nat.zero_mul, Nat.zero_add, List.getElem?_append_left (by omega)]
      | succ i =>
        rw [List.getElem?_append_right (by rw [hl0, Nat.add_mul]; omega), show (i + 1) * n + j - c0.length = i * n + j by rw [hl0, Nat.add_mul]; omega]
        exact hg i j c (by omega) (by rw [show k + 1 + i = k + (i + 1) by omega]; exact hc) hj

/-- The parts of a struct. -/
theorem fields_open {g : Nat → Option Ty} {c : Nat → Nat} {cs : List Value} {D : Nat → List Value → Prop} (ho : ∀ t ty us, g t = some ty → D t us → ∃ x : ty.den, Rz w (fun b => b < w.heap.size) ty x us ∧ ty.fit x) :
    ∀ (fs : List Field) (ts : List Ty) (o : Nat), tyFs g c o fs = some ts → (∀ f ∈ fs, D f.type ((cs.drop f.offset).take (c f.type))) → (cs.drop o).length = (prL ts).size →
      ∃ x : (prL ts).den, Rz w (fun b => b < w.heap.size) (prL ts) x (cs.drop o) ∧ (prL ts).fit x
  | [], ts, o, ht, _, hl => by
    cases ht
    exact ⟨(), List.eq_nil_of_length_eq_zero hl, trivial⟩
  | f :: r, ts, o, ht, hD, hl => by
    unfold tyFs at ht
    split at ht
    · rename_i ty hty
      split at ht
      · rename_i hc
        split at ht
        · rename_i ts' hts
          cases ht
          simp only [Bool.and_eq_true] at hc
          have ho' := Nat.eq_of_beq_eq_true hc.1
          have hs := Nat.eq_of_beq_eq_true hc.2
          have hd := hD f (by simp)
          rw [ho', hs] at hd
          obtain ⟨x, hx, hf⟩ := ho _ _ _ hty hd
          cases ts' with
          | nil =>
            have hl : _ = ty.size := hl
            rw [List.take_of_length_le (by omega)] at hx
            exact ⟨x, hx, hf⟩
          | cons b r' =>
            have hl : _ = ty.size + (prL (b :: r')).size := hl
            obtain ⟨y, hy, hg⟩ := fields_open ho r (b :: r') (o + ty.size) hts (fun f hf => hD f (by simp [hf])) (by rw [← List.drop_drop, List.length_drop]; omega)
            exact ⟨(x, y), ⟨_, _, by rw [← List.drop_drop, List.take_append_drop], hx, hy⟩, hf, hg⟩
        · cases ht
      · cases ht
    · cases ht

/-- Data of a type, read off its cells. -/
theorem open_cells : ∀ (k : Nat) (t : Nat) (ty : Ty), goodTy P k t = some ty → ∀ (fuel : Nat) (cs : List Value) (d : DataW H × List MemPlace), DataW.trod enc P w 0 sp held fuel t cs = some d →
    ∃ x : ty.den, Rz w (fun b => b < w.heap.size) ty x cs ∧ ty.fit x
  | 0, t, ty, hty, _, _, _, _ => by cases hty
  | k + 1, t, ty, hty, fuel, cs, d, h => by
    unfold goodTy at hty
    split at hty
    · rename_i i hu
      cases hty
      obtain ⟨n, rfl, _, hw⟩ := DataW.trod_int hu h
      simp only [Lit.wf, Bool.and_eq_true, decide_eq_true_eq] at hw
      exact ⟨n, rfl, hw⟩
    · rename_i hu
      cases hty
      obtain ⟨b, rfl, _⟩ := DataW.trod_bool hu h
      exact ⟨b, rfl, trivial⟩
    · rename_i hu
      cases hty
      obtain ⟨s, rfl, _, hs⟩ := DataW.trod_string hu h
      refine ⟨s.data.toList, ?_, ?_⟩
      · show _ = _
        cases s
        rfl
      · show _ ≤ _
        rw [Array.length_toList]
        exact hs
    · rename_i e hu
      split at hty
      · rename_i te hte
        split at hty
        · rename_i hc
          cases hty
          simp only [Bool.and_eq_true] at hc
          have hpos : 0 < te.size := Nat.le_of_ble_eq_true hc.1
          have hsz := Nat.eq_of_beq_eq_true hc.2
          rcases DataW.trod_slice hu h with ⟨rfl, _⟩ | ⟨a, len, cap, elems, rest, n, _, rfl, _, _, hlc, hcm, hel, hget, _, _⟩
          · exact ⟨[], ⟨none, 0, rfl, Nat.le_refl _, fun hp => by simp at hp⟩, by simp [Ty.fit]⟩
          · have hrow : ∀ i, i < len → ∃ cs x, (fun i => w.cells? 0 (a.add (i * te.size)) te.size) (0 + i) = some cs ∧ cs.length = te.size ∧ Rz w (fun b => b < w.heap.size) te x cs ∧ te.fit x := by
              intro i hi
              have hg := hget i hi
              rw [hsz, List.getElem?_eq_getElem (by omega)] at hg
              obtain ⟨c, h1, h2⟩ := Option.bind_eq_some_iff.1 hg
              obtain ⟨x, hx, hf⟩ := open_cells k e te hte n c _ h2
              exact ⟨c, x, by rw [Nat.zero_add]; exact h1, (cells_get h1).1, hx, hf⟩
            obtain ⟨xs, cs, hxl, hr, hcl, hq, hg⟩ := rowL (fun i => w.cells? 0 (a.add (i * te.size)) te.size) len 0 hrow
            refine ⟨xs, ⟨some a, cap, by rw [hxl], by rw [hxl]; exact hlc, fun hp => ?_⟩, by rw [hxl]; omega, hq⟩
            rw [hxl] at hp
            have hcell : ∀ j u, cs[j]? = some u → w.cell? (a.add j) = some u := by
              intro j u hu
              have hj : j < len * te.size := by rw [← hcl]; exact (List.getElem?_eq_some_iff.1 hu).1
              have hi : j / te.size < len := Nat.div_lt_of_lt_mul (by rw [Nat.mul_comm]; exact hj)
              obtain ⟨c, _, h1, hl, _⟩ := hrow (j / te.size) hi
              have hjm : j % te.size < te.size := Nat.mod_lt _ hpos
              have e1 : j / te.size * te.size + j % te.size = j := by rw [Nat.mul_comm]; exact Nat.div_add_mod _ _
              have := hg (j / te.size) (j % te.size) c hi h1 hjm
              rw [e1, hu] at this
              rw [Nat.zero_add] at h1
              have h3 := (cells_get h1).2 (j % te.size) u this.symm
              have e2 : (a.add (j / te.size * te.size)).add (j % te.size) = a.add j := add_two a e1
              rw [← e2]
              exact h3
            have h0 : ∃ u, cs[0]? = some u := by
              refine ⟨_, List.getElem?_eq_getElem ?_⟩
              rw [hcl]
              exact Nat.mul_pos hp hpos
            obtain ⟨u, hu⟩ := h0
            have hp := cell_place (hcell 0 u hu)
            obtain ⟨g, o, s⟩ := a
            obtain ⟨hp1, hp2⟩ := hp
            have hs : s = none := hp1
            subst hs
            exact ⟨g, o, cs, rfl, hp2, hr, fun j u hu => by rw [← add_plain]; exact hcell j u hu⟩
        · cases hty
      · cases hty
    · rename_i fields hu
      split at hty
      · rename_i ts hts
        split at hty
        · rename_i hc
          cases hty
          obtain ⟨xs, n, _, _, hlen, _, hf⟩ := DataW.trod_struct hu h
          rw [Nat.eq_of_beq_eq_true hc] at hlen
          have hf : ∀ f ∈ fields.toList, ∃ y, DataW.trod enc P w 0 sp held n f.type ((cs.drop f.offset).take (P.cellsOf f.type)) = some y := by
            intro f hm
            obtain ⟨i, hi, e⟩ := List.getElem_of_mem hm
            have hi' : i < fields.size := by simpa using hi
            have e' : fields[i]? = some f := by rw [Array.getElem?_eq_getElem hi']; simp only [← e, Array.getElem_toList]
            have := hf i f e'
            rw [this]
            exact ⟨xs[i]'(by omega), List.getElem?_eq_getElem _⟩
          have := fields_open (cs := cs) (D := fun t us => ∃ y, DataW.trod enc P w 0 sp held n t us = some y) (fun t ty us h1 ⟨y, h2⟩ => open_cells k t ty h1 n us y h2) fields.toList ts 0 hts hf (by rw [List.drop_zero]; exact hlen)
          rw [List.drop_zero] at this
          exact this
        · cases hty
      · cases hty
    · cases hty

/-! ### Arguments -/
def aggB (P : Program) (t : Nat) : Bool := match P.underlying t with
  | some (.struct _) => true
  | _ => false

theorem eqv_self : ∀ (t : Ty), t.eqv t = some ⟨rfl⟩
  | .int k => by
    have : ikEq k k = true := by cases k <;> rfl
    simp [Ty.eqv, this]
  | .bool => rfl
  | .str => rfl
  | .sl t => by
    unfold Ty.eqv
    rw [eqv_self t]
  | .pr a b => by
    unfold Ty.eqv
    rw [eqv_self a, eqv_self b]
  | .un => rfl
  | .fk f => by simp [Ty.eqv]

theorem pack_unpack (C : Nat → Blk) : ∀ (t : Ty) (x : t.den) (r : List AV), pack C t (unpack t x ++ r) = some (x, r, [])
  | .int k, x, r => by
    have : dat1 C (.int k) (.d (.int k) x) = some (x, []) := by
      show (if ikEq k k = true then some (x, []) else none) = _
      rw [if_pos (by cases k <;> rfl)]
    show (match dat1 C (.int k) (.d (.int k) x) with | some (x, f) => some (x, r, f) | none => none) = _
    rw [this]
  | .bool, x, r => rfl
  | .str, x, r => rfl
  | .sl t, x, r => by
    have : dat1 C (.sl t) (.d (.sl t) x) = some (x, []) := by
      simp only [dat1, eqv_self]
      rfl
    show (match dat1 C (.sl t) (.d (.sl t) x) with | some (x, f) => some (x, r, f) | none => none) = _
    rw [this]
  | .pr a b, x, r => by
    show pack C (.pr a b) ((unpack a x.1 ++ unpack b x.2) ++ r) = _
    rw [List.append_assoc]
    unfold pack
    rw [pack_unpack C a x.1]
    simp only
    rw [pack_unpack C b x.2]
    rfl
  | .un, x, r => rfl
  | .fk f, x, r => by
    have : dat1 C (.fk f) (.fn f []) = some ((), []) := by
      show (if Nat.beq f f = true then some ((), []) else none) = _
      rw [if_pos (Nat.beq_refl f)]
    show (match dat1 C (.fk f) (.fn f []) with | some (x, f) => some (x, r, f) | none => none) = _
    rw [this]

theorem dat_ag (C : Nat → Blk) (t : Ty) (x : t.den) : dat C t (.ag (unpack t x)) = some (x, []) := by
  have := pack_unpack C t x []
  rw [List.append_nil] at this
  show (match pack C t (unpack t x) with | some (x, [], f) => some (x, f) | _ => none) = _
  rw [this]

theorem take_ag (C : Nat → Blk) (t : Ty) (x : t.den) : SV.take C [] (.d true t) (.ag (unpack t x)) = some (x, []) := dat_ag C t x

theorem take_one (C : Nat → Blk) (t : Ty) (x : t.den) (h : unpack t x = [.d t x]) : SV.take C [] (.d false t) (.d t x) = some (x, []) := by
  have := pack_unpack C t x []
  rw [List.append_nil, h] at this
  show (match pack C t [.d t x] with | some (x, [], f) => some (x, f) | _ => none) = _
  rw [this]

theorem open_arg {r : Reach} {b0 k t : Nat} {ty : Ty} {v : Value} {d : DataW H} {ps : List MemPlace} (hg : goodTy P (k + 1) t = some ty) (hv : Value.okWide P w r b0 t v) (hd : DataW.Trod enc P w 0 sp held t v d ps) :
    ∃ (a : AV) (x : ty.den), RelV w (fun b => b < w.heap.size) iNone a v ∧ SV.take cDead [] (.d (aggB P t) ty) a = some (x, []) ∧ ty.fit x := by
  obtain ⟨fuel, hf⟩ := hd
  obtain ⟨x, hx, hfit⟩ := open_cells (k + 1) t ty hg fuel _ _ hf
  unfold goodTy at hg
  unfold aggB
  split at hg
  · rename_i i hu
    cases hg
    obtain ⟨n, rfl⟩ := okWide_int hu hv
    rw [hu]
    exact ⟨_, x, by simp only [RelV]; exact hx, take_one _ _ x rfl, hfit⟩
  · rename_i hu
    cases hg
    obtain ⟨n, rfl⟩ := okWide_bool hu hv
    rw [hu]
    exact ⟨_, x, by simp only [RelV]; exact hx, take_one _ _ x rfl, hfit⟩
  · rename_i hu
    cases hg
    obtain ⟨n, rfl⟩ := okWide_string hu hv
    rw [hu]
    exact ⟨_, x, by simp only [RelV]; exact hx, take_one _ _ x rfl, hfit⟩
  · rename_i e hu
    split at hg
    · split at hg
      · cases hg
        obtain ⟨a, l, c, rfl⟩ := okWide_slice hu hv
        rw [hu]
        exact ⟨_, x, by simp only [RelV]; exact hx, take_one _ _ x rfl, hfit⟩
      · cases hg
    · cases hg
  · rename_i fs hu
    split at hg
    · split at hg
      · cases hg
        obtain ⟨cs, rfl, _⟩ := okWide_struct hu hv
        rw [hu]
        have hx : Rz _ _ _ x cs.toList := hx
        exact ⟨_, x, by simp only [RelV]; exact ⟨cs.toList, by simp, RelL_unpack _ _ _ hx⟩, take_ag _ _ x, hfit⟩
      · cases hg
    · cases hg
  · cases hg

def argsOf (P : Program) : List Nat → Option (List SV)
  | [] => some []
  | t :: r => match goodTy P 16 t with
    | some ty => match argsOf P r with
      | some s => some (.d (aggB P t) ty :: s)
      | none => none
    | none => none

def fitL : (l : List SV) → SV.denL l → Prop
  | [], _ => True
  | .d _ t :: r, x => t.fit x.1 ∧ fitL r x.2
  | _ :: _, _ => False

/-- All arguments, as data. -/
theorem open_args {r : Reach} {b0 : Nat} : ∀ (ts : List TypeId) (vs : List Value) (ds : List (DataW H)) (ps : List MemPlace), DataW.TrodAll enc P w 0 sp held ts vs ds ps →
    (∀ (j : Nat) t v, ts[j]? = some t → vs[j]? = some v → Value.okWide P w r b0 t v) → ∀ (svs : List SV), argsOf P ts = some svs →
    ∃ (avs : List AV) (x : SV.denL svs), RelL w (fun b => b < w.heap.size) iNone avs vs ∧ SV.takeL cDead [] svs avs = some (x, []) ∧ fitL svs x
  | [], vs, ds, ps, h, _, svs, hs => by
    obtain ⟨rfl, _, _⟩ := trodAll_nil h
    cases hs
    exact ⟨[], (), RelL_nil.2 rfl, rfl, trivial⟩
  | t :: ts, vs, ds, ps, h, hv, svs, hs => by
    obtain ⟨v, vs', d, ds', p, q, rfl, rfl, rfl, hd, hr⟩ := trodAll_cons h
    unfold argsOf at hs
    split at hs
    · rename_i ty hty
      split at hs
      · rename_i s hs'
        cases hs
        obtain ⟨a, x, h1, h2, h3⟩ := open_arg hty (hv 0 t v rfl rfl) hd
        obtain ⟨avs, y, h4, h5, h6⟩ := open_args ts vs' ds' q hr (fun j t' v' h7 h8 => hv (j + 1) t' v' h7 h8) s hs'
        refine ⟨a :: avs, (x, y), RelL_cons.2 ⟨v, vs', rfl, h1, h4⟩, ?_, h3, h6⟩
        unfold SV.takeL
        rw [h2]
        simp only
        rw [h5]
        rfl
      · cases hs
    · cases hs

/-- They read behind the call as ahead of it. -/
theorem shut_args {W W' : World} (hl : laidOutB P = true) (hb : Below W.heap.size W W') : ∀ (ts : List TypeId) (vs : List Value) (ds : List (DataW H)) (ps : List MemPlace), (∀ t ∈ ts, P.readableRec t = true ∧ t < P.types.size) →
    DataW.TrodAll enc P W 0 (fun _ => true) true ts vs ds ps → DataW.TrodAll enc P W' 0 (fun b => decide (b < W.heap.size)) true ts vs ds ps
  | [], vs, ds, ps, _, h => by
    obtain ⟨rfl, rfl, rfl⟩ := trodAll_nil h
    exact trodAll_mk0
  | t :: ts, vs, ds, ps, ht, h => by
    obtain ⟨v, vs', d, ds', p, q, rfl, rfl, rfl, hd, hr⟩ := trodAll_cons h
    have lt : ∀ x ∈ p, x.block < W.heap.size := by
      obtain ⟨m, hm⟩ := hd
      exact DataW.trod_lt m _ _ _ hm
    exact trodAll_cons_mk (Below.trod hl (ht t (by simp)).1 (ht t (by simp)).2 hd hb lt) (shut_args hl hb ts vs' ds' q (fun t' h' => ht t' (by simp [h'])) hr)
end
end Go.Proofs.Rf
/- Limbs that are handed in. -/
namespace Go.Proofs.Rf
open Go Go.RowKit
theorem Wf_of_fit {a : List Int} (h : (Ty.sl (.int .u32)).fit a) : Wf a := fun x hx => by
  have := h.2 x hx
  have h0 : IntKind.u32.min = 0 := by decide
  have h1 : IntKind.u32.max = 4294967295 := by decide
  have h2 : IntKind.u32.min ≤ x ∧ x ≤ IntKind.u32.max := this
  rw [h0, h1] at h2
  omega
end Go.Proofs.Rf
