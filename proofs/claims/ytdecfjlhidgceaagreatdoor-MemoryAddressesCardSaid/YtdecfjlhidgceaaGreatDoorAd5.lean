/- Texts put together: EQ120, EQ121, E12, EO12, ShAtoi, At12, L12, M1, M2, M3, M4. -/
import Derived.Test.YtdecfjlhidgceaaGreatDoorAd4
import Derived.Shelf.LaysC
import Derived.Shelf.Strconv.AtoiAll
import Derived.Test.YtdecfjlhidgceaaGreatDoorProg
import Derived.Below
import Derived.Laws.RangeAny
import Derived.Laws.RangeString
set_option linter.unusedVariables false
namespace Go.Proofs.Rf
open Go Go.RowKit
theorem S8_4_eq (t8 : List (Int × (List UInt8 × ((Int × Int) × ((Int × Int) × (Int × (Int × (Bool × (Int × ((Int × (Int × (Int × Int))) × (List Int × List Bool))))))))))) (t9 : Int) (t10 : Int) : S8_4 ((t8, t9, t10, ()), ()) = (if decide (t10 < t9) = true then if 0 ≤ t10 then if t10 < (↑t8.length : Int) then if ((t8.getD t10.toNat (0, [], (0, 0), (0, 0), 0, 0, false, 0, (0, 0, 0, 0), [], [])).1 == 0) = true then if decide ((t8.getD t10.toNat (0, [], (0, 0), (0, 0), 0, 0, false, 0, (0, 0, 0, 0), [], [])).2.2.2.2.2.2.2.1 > 400) = true then if decide ((t8.getD t10.toNat (0, [], (0, 0), (0, 0), 0, 0, false, 0, (0, 0, 0, 0), [], [])).2.2.2.2.2.2.2.1 ≤ 65536) = true then some (Sum.inr (Sum.inl ((false, ()), ()))) else if decide ((↑(List.length (t8.getD t10.toNat (0, [], (0, 0), (0, 0), 0, 0, false, 0, (0, 0, 0, 0), [], [])).2.1) : Int) > 100) = true then some (Sum.inr (Sum.inl ((false, ()), ()))) else if decide ((↑(List.length (t8.getD t10.toNat (0, [], (0, 0), (0, 0), 0, 0, false, 0, (0, 0, 0, 0), [], [])).2.2.2.2.2.2.2.2.2.1) : Int) > 100) = true then some (Sum.inr (Sum.inl ((false, ()), ()))) else if decide ((↑(List.length (t8.getD t10.toNat (0, [], (0, 0), (0, 0), 0, 0, false, 0, (0, 0, 0, 0), [], [])).2.2.2.2.2.2.2.2.2.2) : Int) > 100) = true then some (Sum.inr (Sum.inl ((false, ()), ()))) else some (Sum.inl ((t8, t9, IntKind.i64.wrap (t10 + 1), ()), ())) else if decide ((↑(List.length (t8.getD t10.toNat (0, [], (0, 0), (0, 0), 0, 0, false, 0, (0, 0, 0, 0), [], [])).2.1) : Int) > 100) = true then some (Sum.inr (Sum.inl ((false, ()), ()))) else if decide ((↑(List.length (t8.getD t10.toNat (0, [], (0, 0), (0, 0), 0, 0, false, 0, (0, 0, 0, 0), [], [])).2.2.2.2.2.2.2.2.2.1) : Int) > 100) = true then some (Sum.inr (Sum.inl ((false, ()), ()))) else if decide ((↑(List.length (t8.getD t10.toNat (0, [], (0, 0), (0, 0), 0, 0, false, 0, (0, 0, 0, 0), [], [])).2.2.2.2.2.2.2.2.2.2) : Int) > 100) = true then some (Sum.inr (Sum.inl ((false, ()), ()))) else some (Sum.inl ((t8, t9, IntKind.i64.wrap (t10 + 1), ()), ())) else if decide ((↑(List.length (t8.getD t10.toNat (0, [], (0, 0), (0, 0), 0, 0, false, 0, (0, 0, 0, 0), [], [])).2.1) : Int) > 100) = true then some (Sum.inr (Sum.inl ((false, ()), ()))) else if decide ((↑(List.length (t8.getD t10.toNat (0, [], (0, 0), (0, 0), 0, 0, false, 0, (0, 0, 0, 0), [], [])).2.2.2.2.2.2.2.2.2.1) : Int) > 100) = true then some (Sum.inr (Sum.inl ((false, ()), ()))) else if decide ((↑(List.length (t8.getD t10.toNat (0, [], (0, 0), (0, 0), 0, 0, false, 0, (0, 0, 0, 0), [], [])).2.2.2.2.2.2.2.2.2.2) : Int) > 100) = true then some (Sum.inr (Sum.inl ((false, ()), ()))) else some (Sum.inl ((t8, t9, IntKind.i64.wrap (t10 + 1), ()), ())) else none else none else some (Sum.inr (Sum.inr ((), ()))) : Option (z7Z.den ⊕ denX w8_4)) := by kernel_rfl
theorem F8_eq (g8_4 : z7Z.den → Option (denX w8_4)) (l0 : List (Int × (List UInt8 × ((Int × Int) × ((Int × Int) × (Int × (Int × (Bool × (Int × ((Int × (Int × (Int × Int))) × (List Int × List Bool))))))))))) : F8 g8_4 (l0, ()) = (if decide ((↑l0.length : Int) > 60) = true then some ((false, ()), ()) else (g8_4 ((l0, (↑l0.length : Int), 0, ()), ())).bind fun y => Sum.elim (fun y => some ((y.1.1, ()), ())) (fun z => some ((true, ()), ())) y : Option rs8.den) := by kernel_rfl
theorem F12_eq : F12 () = (some (((), ()), ((), 0, ()), [], ()) : Option rs12.den) := by kernel_rfl
theorem S48_2_eq (t5 : List Int) (t6 : Int) (t7 : Int) : S48_2 ((t5, t6, t7, ()), ()) = (if decide (t7 < t6) = true then if 0 ≤ t7 then if t7 < (↑t5.length : Int) then if (!t5.getD t7.toNat 0 == 0) = true then some (Sum.inr (Sum.inl ((t5.getD t7.toNat 0, ()), ()))) else some (Sum.inl ((t5, t6, IntKind.i64.wrap (t7 + 1), ()), ())) else none else none else some (Sum.inr (Sum.inr ((), ()))) : Option (z4f.den ⊕ denX w48_2)) := by kernel_rfl
theorem F48_eq (g48_2 : z4f.den → Option (denX w48_2)) (l0 : List Int) : F48 g48_2 (l0, ()) = ((g48_2 ((l0, (↑l0.length : Int), 0, ()), ())).bind fun y => Sum.elim (fun y => some ((y.1.1, ()), ())) (fun z => some ((0, ()), ())) y : Option rs48.den) := by kernel_rfl
theorem F49_eq (is0 : Bool) (e1 : Int) : F49 (is0, e1, ()) = (if is0 = true then some ((e1, ()), ()) else some ((0, ()), ()) : Option rs49.den) := by kernel_rfl
theorem z3a (s0 : List Int) (v1 : Int) (t7 : Int) (t8 : Int) : S115_2 ((s0, v1, t7, t8, ()), ()) = (if decide (t8 < t7) = true then if 0 ≤ t8 then if t8 < (↑s0.length : Int) then if (v1 == s0.getD t8.toNat 0) = true then some (Sum.inr (Sum.inl ((t8, ()), ()))) else some (Sum.inl ((s0, v1, t7, IntKind.i64.wrap (t8 + 1), ()), ())) else none else none else some (Sum.inr (Sum.inr ((), ()))) : Option (z2J.den ⊕ denX z4z)) := by kernel_rfl
theorem F115_eq (g115_2 : z2J.den → Option (denX z4z)) (s0 : List Int) (v1 : Int) : F115 g115_2 (s0, v1, ()) = ((g115_2 ((s0, v1, (↑s0.length : Int), 0, ()), ())).bind fun y => Sum.elim (fun y => some ((y.1.1, ()), ())) (fun z => some ((-1, ()), ())) y : Option rs115.den) := by kernel_rfl
theorem F90_eq (F115 : TF115) (s0 : List Int) (v1 : Int) : F90 F115 (s0, v1, ()) = ((F115 (s0, v1, ())).bind fun y => some ((decide (y.1.1 ≥ 0), ()), ()) : Option rs90.den) := by kernel_rfl
theorem F50_eq (F90 : TF90) (n0 : Int) : F50 F90 (n0, ()) = ((F90 ([1, 2, 4, 8, 16], n0, ())).bind fun y => some ((y.1.1, ()), ()) : Option rs50.den) := by kernel_rfl
theorem F51_eq : F51 () = (some (((-1, 0), ()), ()) : Option rs51.den) := by kernel_rfl
theorem F68_eq (size0 : Int) : F68 (size0, ()) = (some ((IntKind.i64.wrap (IntKind.i64.wrap (IntKind.i64.wrap ((IntKind.i64.wrap (size0 + 15)).tdiv 16) * 16) + 16), ()), ()) : Option rs68.den) := by kernel_rfl
theorem F52_eq (F51 : TF51) (F68 : TF68) (s1_0 : Int) (s1_1 : Int) (s1_2 : Bool) (size2 : Int) (b0_1 : Int) (nr1 : List XB) : F52 F51 F68 (((), (s1_0, s1_1, s1_2), size2, ()), (((), b0_1, ()), nr1, ())) = ((if decide ((↑nr1.length : Int) ≥ 100000) = true then (F51 ()).bind fun y => some (((), (y.1.1.1, y.1.1.2), 22, ()), ((), b0_1, ()), nr1, ()) else if 0 ≤ size2 then if size2 ≤ size2 then if size2 ≤ ((4294967296 : Nat) : Int) then if nr1.length + [((s1_0, s1_1, s1_2, false), List.replicate size2.toNat z4)].length ≤ 4294967296 then if (s1_0 == 0) = true then (F68 (size2, ())).bind fun y => some (((), (IntKind.i64.wrap ((↑(nr1 ++ [((s1_0, s1_1, s1_2, false), List.replicate size2.toNat z4)]).length : Int) - 1), 0), 0, ()), ((), IntKind.i64.wrap (b0_1 + y.1.1), ()), nr1 ++ [((s1_0, s1_1, s1_2, false), List.replicate size2.toNat z4)], ()) else some (((), (IntKind.i64.wrap ((↑(nr1 ++ [((s1_0, s1_1, s1_2, false), List.replicate size2.toNat z4)]).length : Int) - 1), 0), 0, ()), ((), b0_1, ()), nr1 ++ [((s1_0, s1_1, s1_2, false), List.replicate size2.toNat z4)], ()) else none else none else none else none).bind fun z => some z : Option rs52.den) := by kernel_rfl
theorem F14_eq (F48 : TF48) (F49 : TF49) (F50 : TF50) (F51 : TF51) (F52 : TF52) (kind1 : Int) (size2 : Int) (align3 : Int) (constant4 : Bool) (b0_1 : Int) (nr1 : List XB) : F14 F48 F49 F50 F51 F52 (((), kind1, size2, align3, constant4, ()), (((), b0_1, ()), nr1, ())) = ((if decide (kind1 < 0) = true then (F49 (true, 11, ())).bind fun y => if decide (size2 < 0) = true then (F49 (true, 3, ())).bind fun y_1 => (F48 ([y.1.1, y_1.1.1], ())).bind fun y => if (!y.1.1 == 0) = true then (F51 ()).bind fun y_2 => some (((), (y_2.1.1.1, y_2.1.1.2), y.1.1, ()), ((), b0_1, ()), nr1, ()) else (F52 (((), (kind1, align3, constant4), size2, ()), ((), b0_1, ()), nr1, ())).bind fun z => some (((), (z.1.2.1.1, z.1.2.1.2), z.1.2.2.1, ()), ((), z.2.1.2.1, ()), z.2.2.1, ()) else if decide (size2 > 65536) = true then (F49 (true, 3, ())).bind fun y_1 => (F48 ([y.1.1, y_1.1.1], ())).bind fun y => if (!y.1.1 == 0) = true then (F51 ()).bind fun y_2 => some (((), (y_2.1.1.1, y_2.1.1.2), y.1.1, ()), ((), b0_1, ()), nr1, ()) else (F52 (((), (kind1, align3, constant4), size2, ()), ((), b0_1, ()), nr1, ())).bind fun z => some (((), (z.1.2.1.1, z.1.2.1.2), z.1.2.2.1, ()), ((), z.2.1.2.1, ()), z.2.2.1, ()) else (F50 (align3, ())).bind fun y_1 => (F49 (!y_1.1.1, 3, ())).bind fun y_2 => (F48 ([y.1.1, y_2.1.1], ())).bind fun y => if (!y.1.1 == 0) = true then (F51 ()).bind fun y_3 => some (((), (y_3.1.1.1, y_3.1.1.2), y.1.1, ()), ((), b0_1, ()), nr1, ()) else (F52 (((), (kind1, align3, constant4), size2, ()), ((), b0_1, ()), nr1, ())).bind fun z => some (((), (z.1.2.1.1, z.1.2.1.2), z.1.2.2.1, ()), ((), z.2.1.2.1, ()), z.2.2.1, ()) else (F49 (decide (kind1 ≥ 3), 11, ())).bind fun y => if decide (size2 < 0) = true then (F49 (true, 3, ())).bind fun y_1 => (F48 ([y.1.1, y_1.1.1], ())).bind fun y => if (!y.1.1 == 0) = true then (F51 ()).bind fun y_2 => some (((), (y_2.1.1.1, y_2.1.1.2), y.1.1, ()), ((), b0_1, ()), nr1, ()) else (F52 (((), (kind1, align3, constant4), size2, ()), ((), b0_1, ()), nr1, ())).bind fun z => some (((), (z.1.2.1.1, z.1.2.1.2), z.1.2.2.1, ()), ((), z.2.1.2.1, ()), z.2.2.1, ()) else if decide (size2 > 65536) = true then (F49 (true, 3, ())).bind fun y_1 => (F48 ([y.1.1, y_1.1.1], ())).bind fun y => if (!y.1.1 == 0) = true then (F51 ()).bind fun y_2 => some (((), (y_2.1.1.1, y_2.1.1.2), y.1.1, ()), ((), b0_1, ()), nr1, ()) else (F52 (((), (kind1, align3, constant4), size2, ()), ((), b0_1, ()), nr1, ())).bind fun z => some (((), (z.1.2.1.1, z.1.2.1.2), z.1.2.2.1, ()), ((), z.2.1.2.1, ()), z.2.2.1, ()) else (F50 (align3, ())).bind fun y_1 => (F49 (!y_1.1.1, 3, ())).bind fun y_2 => (F48 ([y.1.1, y_2.1.1], ())).bind fun y => if (!y.1.1 == 0) = true then (F51 ()).bind fun y_3 => some (((), (y_3.1.1.1, y_3.1.1.2), y.1.1, ()), ((), b0_1, ()), nr1, ()) else (F52 (((), (kind1, align3, constant4), size2, ()), ((), b0_1, ()), nr1, ())).bind fun z => some (((), (z.1.2.1.1, z.1.2.1.2), z.1.2.2.1, ()), ((), z.2.1.2.1, ()), z.2.2.1, ())).bind fun z => some z : Option rs14.den) := by kernel_rfl
theorem F98_eq : F98 () = (some (((), ()), [([(102 : UInt8), (51 : UInt8), (50 : UInt8)], 32), ([(102 : UInt8), (54 : UInt8), (52 : UInt8)], 64), ([(112 : UInt8), (116 : UInt8), (114 : UInt8)], 64)], ()) : Option rs98.den) := by kernel_rfl
theorem S69_7_eq (typ0 : List UInt8) (it0s : List UInt8) (it0p : Nat) : S69_7 ((typ0, (), ()), ((it0s, it0p), ())) = (if it0p < it0s.length then if decide ((↑(Utf8.decode { data := { toList := it0s } } it0p).1 : Int) < 48) = true then some (Sum.inr (Sum.inl ((0, false, ()), ()))) else if decide ((↑(Utf8.decode { data := { toList := it0s } } it0p).1 : Int) > 57) = true then some (Sum.inr (Sum.inl ((0, false, ()), ()))) else some (Sum.inl ((typ0, (), ()), (it0s, it0p + (Utf8.decode { data := { toList := it0s } } it0p).2), ())) else some (Sum.inr (Sum.inr ((typ0, ()), ()))) : Option (z4a.den ⊕ denX w69_7)) := by kernel_rfl
theorem F69_eq (F98 : TF98) (F99 : TF99) (g69_7 : z4a.den → Option (denX w69_7)) (typ0 : List UInt8) : F69 F98 F99 g69_7 (typ0, ()) = ((F98 ()).bind fun y => if (lookM Ty.str (Ty.int IntKind.i64) y.2.1 typ0).isSome = true then some (((lookM Ty.str (Ty.int IntKind.i64) y.2.1 typ0).getD 0, true, ()), ()) else if decide ((↑typ0.length : Int) < 2) = true then some ((0, false, ()), ()) else if 0 < (↑typ0.length : Int) then if (!(↑(typ0.getD 0 (0 : UInt8)).toNat : Int) == 117) = true then if 0 < (↑typ0.length : Int) then if (!(↑(typ0.getD 0 (0 : UInt8)).toNat : Int) == 105) = true then some ((0, false, ()), ()) else if 1 < (↑typ0.length : Int) then if ((↑(typ0.getD 1 (0 : UInt8)).toNat : Int) == 48) = true then if (!typ0 == [(117 : UInt8), (48 : UInt8)]) = true then some ((0, false, ()), ()) else if 1 ≤ (↑typ0.length : Int) then if (↑typ0.length : Int) ≤ (↑typ0.length : Int) then (g69_7 ((typ0, (), ()), (List.drop 1 typ0, 0), ())).bind fun y => Sum.elim (fun y => some ((y.1.1, y.1.2.1, ()), ())) (fun z => if 1 ≤ (↑(List.length z.1.1) : Int) then if (↑(List.length z.1.1) : Int) ≤ (↑(List.length z.1.1) : Int) then (F99 (List.drop 1 z.1.1, ())).bind fun y => if y.1.2.1 = true then some ((y.1.1, decide (y.1.1 ≤ 64), ()), ()) else some ((y.1.1, false, ()), ()) else none else none) y else none else none else if 1 ≤ (↑typ0.length : Int) then if (↑typ0.length : Int) ≤ (↑typ0.length : Int) then (g69_7 ((typ0, (), ()), (List.drop 1 typ0, 0), ())).bind fun y => Sum.elim (fun y => some ((y.1.1, y.1.2.1, ()), ())) (fun z => if 1 ≤ (↑(List.length z.1.1) : Int) then if (↑(List.length z.1.1) : Int) ≤ (↑(List.length z.1.1) : Int) then (F99 (List.drop 1 z.1.1, ())).bind fun y => if y.1.2.1 = true then some ((y.1.1, decide (y.1.1 ≤ 64), ()), ()) else some ((y.1.1, false, ()), ()) else none else none) y else none else none else none else none else if 1 < (↑typ0.length : Int) then if ((↑(typ0.getD 1 (0 : UInt8)).toNat : Int) == 48) = true then if (!typ0 == [(117 : UInt8), (48 : UInt8)]) = true then some ((0, false, ()), ()) else if 1 ≤ (↑typ0.length : Int) then if (↑typ0.length : Int) ≤ (↑typ0.length : Int) then (g69_7 ((typ0, (), ()), (List.drop 1 typ0, 0), ())).bind fun y => Sum.elim (fun y => some ((y.1.1, y.1.2.1, ()), ())) (fun z => if 1 ≤ (↑(List.length z.1.1) : Int) then if (↑(List.length z.1.1) : Int) ≤ (↑(List.length z.1.1) : Int) then (F99 (List.drop 1 z.1.1, ())).bind fun y => if y.1.2.1 = true then some ((y.1.1, decide (y.1.1 ≤ 64), ()), ()) else some ((y.1.1, false, ()), ()) else none else none) y else none else none else if 1 ≤ (↑typ0.length : Int) then if (↑typ0.length : Int) ≤ (↑typ0.length : Int) then (g69_7 ((typ0, (), ()), (List.drop 1 typ0, 0), ())).bind fun y => Sum.elim (fun y => some ((y.1.1, y.1.2.1, ()), ())) (fun z => if 1 ≤ (↑(List.length z.1.1) : Int) then if (↑(List.length z.1.1) : Int) ≤ (↑(List.length z.1.1) : Int) then (F99 (List.drop 1 z.1.1, ())).bind fun y => if y.1.2.1 = true then some ((y.1.1, decide (y.1.1 ≤ 64), ()), ()) else some ((y.1.1, false, ()), ()) else none else none) y else none else none else none else none : Option rs69.den) := by kernel_rfl
theorem F28_eq (F69 : TF69) (typ0 : List UInt8) : F28 F69 (typ0, ()) = ((F69 (typ0, ())).bind fun y => if (!y.1.2.1) = true then some ((0, 12, ()), ()) else some ((IntKind.i64.wrap ((IntKind.i64.wrap (y.1.1 + 7)).tdiv 8), 0, ()), ()) : Option rs28.den) := by kernel_rfl
theorem F70_eq (g70_2 : z4I.den → Option (denX w70_2)) (size0 : Int) : F70 g70_2 (size0, ()) = ((g70_2 ((size0, 1, ()), ())).bind fun y => some ((y.1.1, ()), ()) : Option rs70.den) := by kernel_rfl
theorem F54_eq (F28 : TF28) (F70 : TF70) (typ0 : List UInt8) (a1_0 : Int) (a1_1 : Int) (write2 : Bool) : F54 F28 F70 (typ0, (a1_0, a1_1), write2, ()) = ((F28 (typ0, ())).bind fun y => (F70 (y.1.1, ())).bind fun y_1 => some ((((a1_0, a1_1), y.1.1, y_1.1.1, write2), y.1.2.1 == 0, ()), ()) : Option rs54.den) := by kernel_rfl
theorem F92_eq : F92 () = (some ((((14, ()), (15, ()), (16, ()), 17, ()), ()), ()) : Option rs92.den) := by kernel_rfl
theorem F65_eq (F51 : TF51) (m0_c0 : List XB) (m0_c1 : Int) (a1_0 : Int) (a1_1 : Int) : F65 F51 ((m0_c0, m0_c1, ()), (a1_0, a1_1), ()) = ((F51 ()).bind fun y => if (a1_0 == y.1.1.1 && (a1_1 == y.1.1.2 && true)) = true then some ((true, ()), ()) else if decide (a1_0 ≥ 0) = true then if decide (a1_0 < (↑m0_c0.length : Int)) = true then if decide (a1_1 ≥ -1099511627776) = true then some ((decide (a1_1 ≤ 1099511627776), ()), ()) else some ((false, ()), ()) else some ((false, ()), ()) else some ((false, ()), ()) : Option rs65.den) := by kernel_rfl
theorem F117_eq (F51 : TF51) (F65 : TF65) (m0_c0 : List XB) (m0_c1 : Int) (x1_0_0 : Int) (x1_0_1 : Int) (x1_1 : Int) (x1_2 : Int) (x1_3 : Bool) : F117 F51 F65 ((m0_c0, m0_c1, ()), ((x1_0_0, x1_0_1), x1_1, x1_2, x1_3), ()) = ((F51 ()).bind fun y => if (x1_0_0 == y.1.1.1 && (x1_0_1 == y.1.1.2 && true)) = true then some ((true, ()), ()) else (F65 ((m0_c0, m0_c1, ()), (x1_0_0, x1_0_1), ())).bind fun y => if (!y.1.1) = true then some ((true, ()), ()) else if 0 ≤ x1_0_0 then if x1_0_0 < (↑m0_c0.length : Int) then if decide (x1_0_1 < 0) = true then some ((true, ()), ()) else if decide (x1_0_1 > (↑(List.length (m0_c0.getD x1_0_0.toNat ((0, 0, false, false), [])).2) : Int)) = true then some ((true, ()), ()) else some ((decide (IntKind.i64.wrap ((↑(List.length (m0_c0.getD x1_0_0.toNat ((0, 0, false, false), [])).2) : Int) - x1_0_1) < x1_1), ()), ()) else none else none : Option rs117.den) := by kernel_rfl
theorem F118_eq (m0_c0 : List XB) (m0_c1 : Int) (x1_0_0 : Int) (x1_0_1 : Int) (x1_1 : Int) (x1_2 : Int) (x1_3 : Bool) : F118 ((m0_c0, m0_c1, ()), ((x1_0_0, x1_0_1), x1_1, x1_2, x1_3), ()) = (if 0 ≤ x1_0_0 then if x1_0_0 < (↑m0_c0.length : Int) then some (((m0_c0.getD x1_0_0.toNat ((0, 0, false, false), [])).1.2.2.2, ()), ()) else none else none : Option rs118.den) := by kernel_rfl
theorem F119_eq (m0_c0 : List XB) (m0_c1 : Int) (x1_0_0 : Int) (x1_0_1 : Int) (x1_1 : Int) (x1_2 : Int) (x1_3 : Bool) : F119 ((m0_c0, m0_c1, ()), ((x1_0_0, x1_0_1), x1_1, x1_2, x1_3), ()) = (if decide (x1_2 > 0) = true then if 0 ≤ x1_0_0 then if x1_0_0 < (↑m0_c0.length : Int) then if decide (x1_2 > (m0_c0.getD x1_0_0.toNat ((0, 0, false, false), [])).1.2.1) = true then some ((true, ()), ()) else if x1_2 = 0 then none else some ((!x1_0_1.tmod x1_2 == 0, ()), ()) else none else none else some ((false, ()), ()) : Option rs119.den) := by kernel_rfl
theorem F120_eq (m0_c0 : List XB) (m0_c1 : Int) (x1_0_0 : Int) (x1_0_1 : Int) (x1_1 : Int) (x1_2 : Int) (x1_3 : Bool) : F120 ((m0_c0, m0_c1, ()), ((x1_0_0, x1_0_1), x1_1, x1_2, x1_3), ()) = (if x1_3 = true then if 0 ≤ x1_0_0 then if x1_0_0 < (↑m0_c0.length : Int) then some (((m0_c0.getD x1_0_0.toNat ((0, 0, false, false), [])).1.2.2.1, ()), ()) else none else none else some ((false, ()), ()) : Option rs120.den) := by kernel_rfl
theorem z5p (F117 : TF117) (F118 : TF118) (F119 : TF119) (F120 : TF120) (m0_c0 : List XB) (m0_c1 : Int) (t10_0_0 : Int) (t10_1_0 : Int) (t10_2_0 : Int) (t10_3 : Int) (t11 : Int) (b0_0 : Int) (b0_1 : Int) (b0_2 : Int) (b0_3 : Int) (b0_4 : Bool) : S55_4 F117 F118 F119 F120 (((m0_c0, m0_c1, ()), (), ((t10_0_0, ()), (t10_1_0, ()), (t10_2_0, ()), t10_3, ()), t11, ()), ((b0_0, b0_1, b0_2, b0_3, b0_4, ()), ())) = (if decide (t11 < 4) = true then if t11 = (↑0 : Int) then (F117 ((m0_c0, m0_c1, ()), ((b0_0, b0_1), b0_2, b0_3, b0_4), ())).bind fun y => if y.1.1 = true then some (Sum.inr (Sum.inl ((t10_0_0, ()), ()))) else some (Sum.inl (((m0_c0, m0_c1, ()), (), ((t10_0_0, ()), (t10_1_0, ()), (t10_2_0, ()), t10_3, ()), IntKind.i64.wrap (t11 + 1), ()), (b0_0, b0_1, b0_2, b0_3, b0_4, ()), ())) else if t11 = (↑1 : Int) then (F118 ((m0_c0, m0_c1, ()), ((b0_0, b0_1), b0_2, b0_3, b0_4), ())).bind fun y => if y.1.1 = true then some (Sum.inr (Sum.inl ((t10_1_0, ()), ()))) else some (Sum.inl (((m0_c0, m0_c1, ()), (), ((t10_0_0, ()), (t10_1_0, ()), (t10_2_0, ()), t10_3, ()), IntKind.i64.wrap (t11 + 1), ()), (b0_0, b0_1, b0_2, b0_3, b0_4, ()), ())) else if t11 = (↑2 : Int) then (F119 ((m0_c0, m0_c1, ()), ((b0_0, b0_1), b0_2, b0_3, b0_4), ())).bind fun y => if y.1.1 = true then some (Sum.inr (Sum.inl ((t10_2_0, ()), ()))) else some (Sum.inl (((m0_c0, m0_c1, ()), (), ((t10_0_0, ()), (t10_1_0, ()), (t10_2_0, ()), t10_3, ()), IntKind.i64.wrap (t11 + 1), ()), (b0_0, b0_1, b0_2, b0_3, b0_4, ()), ())) else if t11 = (↑3 : Int) then (F120 ((m0_c0, m0_c1, ()), ((b0_0, b0_1), b0_2, b0_3, b0_4), ())).bind fun y => if y.1.1 = true then some (Sum.inr (Sum.inl ((t10_3, ()), ()))) else some (Sum.inl (((m0_c0, m0_c1, ()), (), ((t10_0_0, ()), (t10_1_0, ()), (t10_2_0, ()), t10_3, ()), IntKind.i64.wrap (t11 + 1), ()), (b0_0, b0_1, b0_2, b0_3, b0_4, ()), ())) else none else some (Sum.inr (Sum.inr ((), ()))) : Option (z4e.den ⊕ denX w55_4)) := by kernel_rfl
theorem F55_eq (F92 : TF92) (g55_4 : z4e.den → Option (denX w55_4)) (m0_c0 : List XB) (m0_c1 : Int) (x1_0_0 : Int) (x1_0_1 : Int) (x1_1 : Int) (x1_2 : Int) (x1_3 : Bool) : F55 F92 g55_4 ((m0_c0, m0_c1, ()), ((x1_0_0, x1_0_1), x1_1, x1_2, x1_3), ()) = (if decide (x1_1 ≤ 0) = true then some ((-1, ()), ()) else (F92 ()).bind fun y => (g55_4 (((m0_c0, m0_c1, ()), (), ((y.1.1.1.1, ()), (y.1.1.2.1.1, ()), (y.1.1.2.2.1.1, ()), y.1.1.2.2.2.1, ()), 0, ()), (x1_0_0, x1_0_1, x1_1, x1_2, x1_3, ()), ())).bind fun y => Sum.elim (fun y => some ((y.1.1, ()), ())) (fun z => some ((-1, ()), ())) y : Option rs55.den) := by kernel_rfl
theorem F96_eq (a0_0 : Int) (a0_1 : Int) : F96 ((a0_0, a0_1), ()) = (some ((((), ()), ()), (a0_0, a0_1, ()), ()) : Option rs96.den) := by kernel_rfl
theorem S93_5_eq (F51 : TF51) (e0 : Int) (e1_0 : Int) (e1_1 : Int) (e1_2 : Int) (e1_3 : Int) (b0_0 : List (Int × (Int × (Int × Int)))) (b1_0 : Int) (b1_1 : Int) (b2_0 : Bool) (b3_0 : Int) (b3_1 : Int) : S93_5 F51 (e0, (e1_0, e1_1, e1_2, e1_3)) (((), (), (), (), ()), ((b0_0, ()), (b1_0, b1_1, ()), (b2_0, ()), (b3_0, b3_1, ()), ())) = ((F51 ()).bind fun y => if (b3_0 == y.1.1.1 && (b3_1 == y.1.1.2 && true)) = true then if 0 ≤ e0 then if e0 < (↑b0_0.length : Int) then if ((b0_0.getD e0.toNat z4).1 == 1 && ((b0_0.getD e0.toNat z4).2.1 == 0 && ((b0_0.getD e0.toNat z4).2.2.1 == 0 && ((b0_0.getD e0.toNat z4).2.2.2 == 0 && true) && true))) = true then some (Sum.inl (((), (), (), (), ()), (b0_0, ()), (b1_0, b1_1, ()), (b2_0, ()), (b3_0, b3_1, ()), ())) else (F51 ()).bind fun y => some (Sum.inr (((), (), ()), (y.1.1.1, y.1.1.2, ()), (false, ()), ())) else none else none else if 0 ≤ e0 then if e0 < (↑b0_0.length : Int) then if ((b0_0.getD e0.toNat z4).1 == e1_0 && ((b0_0.getD e0.toNat z4).2.1 == e1_1 && ((b0_0.getD e0.toNat z4).2.2.1 == e1_2 && ((b0_0.getD e0.toNat z4).2.2.2 == e1_3 && true) && true))) = true then some (Sum.inl (((), (), (), (), ()), (b0_0, ()), (b1_0, b1_1, ()), (b2_0, ()), (b3_0, b3_1, ()), ())) else (F51 ()).bind fun y => some (Sum.inr (((), (), ()), (y.1.1.1, y.1.1.2, ()), (false, ()), ())) else none else none : Option (z2s.den ⊕ denX w93_5)) := by kernel_rfl
theorem F93_eq (F51 : TF51) (F96 : TF96) (D121 : z8g) (g93_5 : List z3b → z2s.den → Option (z2s.den ⊕ denX w93_5)) (l0 : List (Int × (Int × (Int × Int)))) : F93 F51 F96 D121 g93_5 (l0, ()) = (if 0 < (↑l0.length : Int) then if 0 < (↑l0.length : Int) then if ((l0.getD 0 (0, 0, 0, 0)).1 == 1) = true then (F51 ()).bind fun y => (F96 ((y.1.1.1, y.1.1.2), ())).bind fun y_1 => (D121 (((), ()), (y_1.2.1.1, y_1.2.1.2.1, ()), ())).bind fun xs => (g93_5 xs (((), (), (), (), ()), (l0, ()), (0, 0, ()), (false, ()), (y.1.1.1, y.1.1.2, ()), ())).bind fun y => Sum.elim (fun x' => some (((x'.2.2.2.2.1.1, x'.2.2.2.2.1.2.1), true, ()), ())) (fun z => some (((z.2.1.1, z.2.1.2.1), z.2.2.1.1, ()), ())) y else (F96 (((l0.getD 0 (0, 0, 0, 0)).2.2.1, (l0.getD 0 (0, 0, 0, 0)).2.2.2), ())).bind fun y => (D121 (((), ()), (y.2.1.1, y.2.1.2.1, ()), ())).bind fun xs => (g93_5 xs (((), (), (), (), ()), (l0, ()), (0, 0, ()), (false, ()), ((l0.getD 0 (0, 0, 0, 0)).2.2.1, (l0.getD 0 (0, 0, 0, 0)).2.2.2, ()), ())).bind fun y => Sum.elim (fun x' => some (((x'.2.2.2.2.1.1, x'.2.2.2.2.1.2.1), true, ()), ())) (fun z => some (((z.2.1.1, z.2.1.2.1), z.2.2.1.1, ()), ())) y else none else none : Option rs93.den) := by kernel_rfl
theorem F94_eq (F69 : TF69) (typ0 : List UInt8) : F94 F69 (typ0, ()) = ((F69 (typ0, ())).bind fun y => if (y.1.1 == 64) = true then some ((18446744073709551615, ()), ()) else if y.1.1 < 0 then none else some ((IntKind.u64.wrap (IntKind.u64.wrap (1 * 2 ^ min (Int.toNat y.1.1) 64) - 1), ()), ()) : Option rs94.den) := by kernel_rfl
theorem S56_9_eq (typ0 : List UInt8) (n8 : Int) (t24 : List (Int × (Int × (Int × Int)))) (t25 : Int) (t26 : Int) (b0_0 : Int) (b0_1 : Int) (b0_2 : Int) (b0_3 : Int) (b1_0 : Int) (b1_1 : Int) (b1_2 : Int) (b1_3 : Int) : S56_9 ((typ0, (), (), n8, t24, t25, t26, ()), ((b0_0, b0_1, b0_2, b0_3, ()), (b1_0, b1_1, b1_2, b1_3, ()), ())) = (if decide (t26 < t25) = true then if 0 ≤ t26 then if t26 < (↑t24.length : Int) then if (!(t24.getD t26.toNat z4).1 == 1) = true then some (Sum.inr (Sum.inl (((), ()), (b1_0, b1_1, b1_2, b1_3, ()), ()))) else if IntKind.i64.wrap (8 * t26) < 0 then none else some (Sum.inl ((typ0, (), (), bitop BinOp.or IntKind.u64 n8 (IntKind.u64.wrap (IntKind.u64.wrap (t24.getD t26.toNat z4).2.1 * 2 ^ min (IntKind.i64.wrap (8 * t26)).toNat 64)), t24, t25, IntKind.i64.wrap (t26 + 1), ()), (b0_0, b0_1, b0_2, b0_3, ()), (b1_0, b1_1, b1_2, b1_3, ()), ())) else none else none else some (Sum.inr (Sum.inr ((typ0, (), n8, ()), (b0_0, b0_1, b0_2, b0_3, ()), ()))) : Option (z4d.den ⊕ denX w56_9)) := by kernel_rfl
theorem F56_eq (F51 : TF51) (F93 : TF93) (F94 : TF94) (g56_9 : z4d.den → Option (denX w56_9)) (typ0 : List UInt8) (l1 : List (Int × (Int × (Int × Int)))) : F56 F51 F93 F94 g56_9 (typ0, l1, ()) = ((F51 ()).bind fun y => if (typ0 == [(112 : UInt8), (116 : UInt8), (114 : UInt8)]) = true then (F93 (l1, ())).bind fun y_1 => if y_1.1.2.1 = true then some (((2, 0, y_1.1.1.1, y_1.1.1.2), ()), ()) else some (((0, 0, y.1.1.1, y.1.1.2), ()), ()) else (g56_9 ((typ0, (), (), 0, l1, (↑l1.length : Int), 0, ()), (0, 0, 0, 0, ()), (0, 0, y.1.1.1, y.1.1.2, ()), ())).bind fun y => Sum.elim (fun y => some (((y.2.1.1, y.2.1.2.1, y.2.1.2.2.1, y.2.1.2.2.2.1), ()), ())) (fun z => (F94 (z.1.1, ())).bind fun y => (F51 ()).bind fun y_1 => some (((1, bitop BinOp.and IntKind.u64 z.1.2.2.1 y.1.1, y_1.1.1.1, y_1.1.1.2), ()), ())) y : Option rs56.den) := by kernel_rfl
theorem F57v_eq (m0_c0 : List XB) (m0_c1 : Int) (x1_0_0 : Int) (x1_0_1 : Int) (x1_1 : Int) (x1_2 : Int) (x1_3 : Bool) : F57v ((m0_c0, m0_c1, ()), ((x1_0_0, x1_0_1), x1_1, x1_2, x1_3), ()) = (if decide (x1_1 ≤ 0) = true then some (([], ()), ()) else if 0 ≤ x1_0_0 then if x1_0_0 < (↑m0_c0.length : Int) then if 0 ≤ x1_0_1 then if x1_0_1 ≤ (↑(List.length (m0_c0.getD x1_0_0.toNat ((0, 0, false, false), [])).2) : Int) then if (↑(List.length (m0_c0.getD x1_0_0.toNat ((0, 0, false, false), [])).2) : Int) ≤ (↑(List.length (m0_c0.getD x1_0_0.toNat ((0, 0, false, false), [])).2) : Int) then if x1_1 = x1_1 then if 0 ≤ x1_1 then if x1_1 ≤ (↑(List.drop x1_0_1.toNat (m0_c0.getD x1_0_0.toNat ((0, 0, false, false), [])).2).length : Int) then some ((List.take x1_1.toNat (List.drop x1_0_1.toNat (m0_c0.getD x1_0_0.toNat ((0, 0, false, false), [])).2), ()), ()) else none else none else none else none else none else none else none else none : Option z6i.den) := by kernel_rfl
theorem F16_eq (F51 : TF51) (F54 : TF54) (F55 : TF55) (F56 : TF56) (F57v : TF57v) (m0_c0 : List XB) (m0_c1 : Int) (typ1 : List UInt8) (a2_0 : Int) (a2_1 : Int) : F16 F51 F54 F55 F56 F57v ((m0_c0, m0_c1, ()), typ1, (a2_0, a2_1), ()) = ((F51 ()).bind fun y => (F54 (typ1, (a2_0, a2_1), false, ())).bind fun y_1 => if (!y_1.1.2.1) = true then some (((0, 0, y.1.1.1, y.1.1.2), 13, ()), ()) else (F55 ((m0_c0, m0_c1, ()), ((y_1.1.1.1.1, y_1.1.1.1.2), y_1.1.1.2.1, y_1.1.1.2.2.1, y_1.1.1.2.2.2), ())).bind fun y_2 => if (!y_2.1.1 == -1) = true then some (((0, 0, y.1.1.1, y.1.1.2), y_2.1.1, ()), ()) else (F57v ((m0_c0, m0_c1, ()), ((y_1.1.1.1.1, y_1.1.1.1.2), y_1.1.1.2.1, y_1.1.1.2.2.1, y_1.1.1.2.2.2), ())).bind fun y => (F56 (typ1, y.1.1, ())).bind fun y => some (((y.1.1.1, y.1.1.2.1, y.1.1.2.2.1, y.1.1.2.2.2), -1, ()), ()) : Option rs16.den) := by kernel_rfl
theorem F57_eq (x1_0_0 : Int) (x1_0_1 : Int) (x1_1 : Int) (x1_2 : Int) (x1_3 : Bool) (b0_1 : Int) (nr1 : List XB) : F57 (((), ((x1_0_0, x1_0_1), x1_1, x1_2, x1_3), ()), (((), b0_1, ()), nr1, ())) = (if decide (x1_1 ≤ 0) = true then some (((), (0, 0, 0), ()), ((), b0_1, ()), nr1, ()) else if 0 ≤ x1_0_0 then if x1_0_0 < (↑nr1.length : Int) then if 0 ≤ x1_0_1 then if x1_0_1 ≤ (↑(nr1.getD x1_0_0.toNat ((0, 0, false, false), [])).2.length : Int) then if (↑(nr1.getD x1_0_0.toNat ((0, 0, false, false), [])).2.length : Int) ≤ (↑(nr1.getD x1_0_0.toNat ((0, 0, false, false), [])).2.length : Int) then if x1_1 = x1_1 then if 0 ≤ x1_1 then if x1_1 ≤ (↑((nr1.getD x1_0_0.toNat ((0, 0, false, false), [])).2.length - x1_0_1.toNat) : Int) then some (((), (x1_0_0.toNat, 0 + x1_0_1.toNat, x1_1.toNat), ()), ((), b0_1, ()), nr1, ()) else none else none else none else none else none else none else none else none : Option rs57.den) := by kernel_rfl
theorem F95_eq (F65 : TF65) (F94 : TF94) (m0_c0 : List XB) (m0_c1 : Int) (typ1 : List UInt8) (w2_0 : Int) (w2_1 : Int) (w2_2 : Int) (w2_3 : Int) : F95 F65 F94 ((m0_c0, m0_c1, ()), typ1, (w2_0, w2_1, w2_2, w2_3), ()) = (if (w2_0 == 2) = true then if (typ1 == [(112 : UInt8), (116 : UInt8), (114 : UInt8)]) = true then (F65 ((m0_c0, m0_c1, ()), (w2_2, w2_3), ())).bind fun y => some ((y.1.1, ()), ()) else some ((false, ()), ()) else if (w2_0 == 1) = true then (F94 (typ1, ())).bind fun y => if (bitop BinOp.andNot IntKind.u64 w2_1 y.1.1 == 0) = true then if (!typ1 == [(112 : UInt8), (116 : UInt8), (114 : UInt8)]) = true then some ((true, ()), ()) else some ((w2_1 == 0, ()), ()) else some ((false, ()), ()) else some ((false, ()), ()) : Option rs95.den) := by kernel_rfl
theorem F97_eq (F122 : TF122) (g97_8 : z4D.den → Option (denX w97_8)) (x0 : List (Int × (Int × (Int × Int)))) (count1 : Int) : F97 F122 g97_8 (x0, count1, ()) = (if decide (count1 < 0) = true then none else (F122 (IntKind.u64.wrap (↑x0.length : Int), IntKind.u64.wrap count1, ())).bind fun y => if decide (y.1.1 > 0) = true then none else if decide (y.1.2.1 > 9223372036854775807) = true then none else if 0 ≤ IntKind.i64.wrap y.1.2.1 then if IntKind.i64.wrap y.1.2.1 ≤ IntKind.i64.wrap y.1.2.1 then if IntKind.i64.wrap y.1.2.1 ≤ ((4294967296 : Nat) : Int) then (g97_8 (((), (↑(min x0.length (List.replicate (IntKind.i64.wrap y.1.2.1).toNat z4).length) : Int), ()), (List.take 0 (List.replicate (IntKind.i64.wrap y.1.2.1).toNat z4) ++ List.take (List.replicate (IntKind.i64.wrap y.1.2.1).toNat z4).length x0 ++ List.drop (0 + min (List.length x0) (List.replicate (IntKind.i64.wrap y.1.2.1).toNat z4).length) (List.replicate (IntKind.i64.wrap y.1.2.1).toNat z4)), ())).bind fun y => some (((), ()), y.2.1, ()) else none else none else none : Option rs97.den) := by kernel_rfl
theorem S58_3_eq (t16 : Int) (t17 : Int) (b0_0 : Int) (b0_1 : Int) (b0_2 : Int) (b0_3 : Int) (rw2 : List (Int × (Int × (Int × Int)))) : S58_3 (((), (), t16, t17, ()), ((b0_0, b0_1, b0_2, b0_3, ()), ((), ()), rw2, ())) = (if decide (t17 < t16) = true then if IntKind.i64.wrap (8 * t17) < 0 then none else if 0 ≤ t17 then if t17 < (↑rw2.length : Int) then some (Sum.inl (((), (), t16, IntKind.i64.wrap (t17 + 1), ()), (b0_0, b0_1, b0_2, b0_3, ()), ((), ()), rw2.set t17.toNat (1, IntKind.u8.wrap (b0_1.fdiv (2 ^ min (IntKind.i64.wrap (8 * t17)).toNat 64)), 0, 0), ())) else none else none else some (Sum.inr (((), ()), ((), ()), rw2, ())) : Option (z4c.den ⊕ denX w58_3)) := by kernel_rfl
theorem F58_eq (F51 : TF51) (F95 : TF95) (F96 : TF96) (F97 : TF97) (D121 : z8g) (g58_10 : List z3b → z1G.den → Option (z1G.den ⊕ denX z5U)) (g58_3 : z4c.den → Option (denX w58_3)) (m0_c0 : List XB) (m0_c1 : Int) (typ1 : List UInt8) (n2 : Int) (w3_0 : Int) (w3_1 : Int) (w3_2 : Int) (w3_3 : Int) : F58 F51 F95 F96 F97 D121 g58_10 g58_3 ((m0_c0, m0_c1, ()), typ1, n2, (w3_0, w3_1, w3_2, w3_3), ()) = (if 0 ≤ n2 then if n2 ≤ n2 then if n2 ≤ ((4294967296 : Nat) : Int) then (F95 ((m0_c0, m0_c1, ()), typ1, (w3_0, w3_1, w3_2, w3_3), ())).bind fun y => if (!y.1.1) = true then some (((), ()), List.replicate n2.toNat z4, ()) else if (w3_0 == 2) = true then (F51 ()).bind fun y => if (!(w3_2 == y.1.1.1 && (w3_3 == y.1.1.2 && true))) = true then (F96 ((w3_2, w3_3), ())).bind fun y => (D121 (((), ()), (y.2.1.1, y.2.1.2.1, ()), ())).bind fun xs => (g58_10 xs (((), ()), ((), ()), List.replicate n2.toNat z4, ())).bind fun y => Sum.elim (fun x' => some (((), ()), x'.2.2.1, ())) (fun z => none) y else if (w3_0 == 2) = true then (F97 ([(1, 0, 0, 0)], n2, ())).bind fun y => some (((), ()), (List.take 0 (List.replicate n2.toNat z4) ++ List.take (List.replicate n2.toNat z4).length y.2.1 ++ List.drop (0 + min (List.length y.2.1) (List.replicate n2.toNat z4).length) (List.replicate n2.toNat z4)), ()) else (g58_3 (((), (), (↑(List.replicate n2.toNat z4).length : Int), 0, ()), (w3_0, w3_1, w3_2, w3_3, ()), ((), ()), List.replicate n2.toNat z4, ())).bind fun y => some (((), ()), y.2.2.1, ()) else if (w3_0 == 2) = true then (F97 ([(1, 0, 0, 0)], n2, ())).bind fun y => some (((), ()), (List.take 0 (List.replicate n2.toNat z4) ++ List.take (List.replicate n2.toNat z4).length y.2.1 ++ List.drop (0 + min (List.length y.2.1) (List.replicate n2.toNat z4).length) (List.replicate n2.toNat z4)), ()) else (g58_3 (((), (), (↑(List.replicate n2.toNat z4).length : Int), 0, ()), (w3_0, w3_1, w3_2, w3_3, ()), ((), ()), List.replicate n2.toNat z4, ())).bind fun y => some (((), ()), y.2.2.1, ()) else none else none else none : Option rs58.den) := by kernel_rfl
theorem F17_eq (F54 : TF54) (F55 : TF55) (F57 : TF57) (F58 : TF58) (typ1 : List UInt8) (a2_0 : Int) (a2_1 : Int) (w3_0 : Int) (w3_1 : Int) (w3_2 : Int) (w3_3 : Int) (b0_1 : Int) (nr1 : List XB) : F17 F54 F55 F57 F58 (((), typ1, (a2_0, a2_1), (w3_0, w3_1, w3_2, w3_3), ()), (((), b0_1, ()), nr1, ())) = (((F54 (typ1, (a2_0, a2_1), true, ())).bind fun y => if (!y.1.2.1) = true then some (((), 13, ()), ((), b0_1, ()), nr1, ()) else (F55 ((nr1, b0_1, ()), ((y.1.1.1.1, y.1.1.1.2), y.1.1.2.1, y.1.1.2.2.1, y.1.1.2.2.2), ())).bind fun y_1 => if (!y_1.1.1 == -1) = true then some (((), y_1.1.1, ()), ((), b0_1, ()), nr1, ()) else (F57 (((), ((y.1.1.1.1, y.1.1.1.2), y.1.1.2.1, y.1.1.2.2.1, y.1.1.2.2.2), ()), ((), b0_1, ()), nr1, ())).bind fun z => (F58 ((z.2.2.1, z.2.1.2.1, ()), typ1, y.1.1.2.1, (w3_0, w3_1, w3_2, w3_3), ())).bind fun y => some (((), -1, ()), ((), z.2.1.2.1, ()), List.set z.2.2.1 z.1.2.1.1 ((List.getD z.2.2.1 z.1.2.1.1 ((0, 0, false, false), [])).1, List.take z.1.2.1.2.1 (List.getD z.2.2.1 z.1.2.1.1 ((0, 0, false, false), [])).2 ++ List.take z.1.2.1.2.2 y.2.1 ++ List.drop (z.1.2.1.2.1 + min (List.length y.2.1) z.1.2.1.2.2) (List.getD z.2.2.1 z.1.2.1.1 ((0, 0, false, false), [])).2), ())).bind fun z => some z : Option rs17.den) := by kernel_rfl
theorem S59_2_eq (t5 : List Int) (t6 : Int) (t7 : Int) : S59_2 ((t5, t6, t7, ()), ()) = (if decide (t7 < t6) = true then if 0 ≤ t7 then if t7 < (↑t5.length : Int) then if (!t5.getD t7.toNat 0 == -1) = true then some (Sum.inr (Sum.inl ((t5.getD t7.toNat 0, ()), ()))) else some (Sum.inl ((t5, t6, IntKind.i64.wrap (t7 + 1), ()), ())) else none else none else some (Sum.inr (Sum.inr ((), ()))) : Option (z4b.den ⊕ denX w59_2)) := by kernel_rfl
theorem F59_eq (g59_2 : z4b.den → Option (denX w59_2)) (l0 : List Int) : F59 g59_2 (l0, ()) = ((g59_2 ((l0, (↑l0.length : Int), 0, ()), ())).bind fun y => Sum.elim (fun y => some ((y.1.1, ()), ())) (fun z => some ((-1, ()), ())) y : Option rs59.den) := by kernel_rfl
theorem F60_eq (s0 : List (Int × (Int × (Int × Int)))) : F60 (s0, ()) = (if 0 < s0.length then if 0 + s0.length ≤ 4294967296 then some (((), ()), s0, ()) else none else meet (some (((), ()), [], ())) (if 0 + s0.length ≤ 4294967296 then some (((), ()), s0, ()) else none) : Option rs60.den) := by kernel_rfl
theorem F19_eq (F55 : TF55) (F57 : TF57) (F59 : TF59) (F60 : TF60) (to1_0 : Int) (to1_1 : Int) (from2_0 : Int) (from2_1 : Int) (n3 : Int) (b0_1 : Int) (nr1 : List XB) : F19 F55 F57 F59 F60 (((), (to1_0, to1_1), (from2_0, from2_1), n3, ()), (((), b0_1, ()), nr1, ())) = (((F55 ((nr1, b0_1, ()), ((from2_0, from2_1), n3, 0, false), ())).bind fun y => (F55 ((nr1, b0_1, ()), ((to1_0, to1_1), n3, 0, true), ())).bind fun y_1 => (F59 ([y.1.1, y_1.1.1], ())).bind fun y => if (!y.1.1 == -1) = true then some (((), y.1.1, ()), ((), b0_1, ()), nr1, ()) else (F57 (((), ((to1_0, to1_1), n3, 0, true), ()), ((), b0_1, ()), nr1, ())).bind fun z => (F57 (((), ((from2_0, from2_1), n3, 0, false), ()), ((), z.2.1.2.1, ()), z.2.2.1, ())).bind fun z_1 => (F60 (List.take z_1.1.2.1.2.2 (List.drop z_1.1.2.1.2.1 (List.getD z_1.2.2.1 z_1.1.2.1.1 ((0, 0, false, false), [])).2), ())).bind fun y => some (((), -1, ()), ((), z_1.2.1.2.1, ()), List.set z_1.2.2.1 z.1.2.1.1 ((List.getD z_1.2.2.1 z.1.2.1.1 ((0, 0, false, false), [])).1, List.take z.1.2.1.2.1 (List.getD z_1.2.2.1 z.1.2.1.1 ((0, 0, false, false), [])).2 ++ List.take z.1.2.1.2.2 y.2.1 ++ List.drop (z.1.2.1.2.1 + min (List.length y.2.1) z.1.2.1.2.2) (List.getD z_1.2.2.1 z.1.2.1.1 ((0, 0, false, false), [])).2), ())).bind fun z => some z : Option rs19.den) := by kernel_rfl
theorem F22_eq (m0_c0 : List XB) (m0_c1 : Int) : F22 ((m0_c0, m0_c1, ()), ()) = (some ((m0_c1, ()), ()) : Option rs22.den) := by kernel_rfl
theorem F66_eq (F51 : TF51) (m0_c0 : List XB) (m0_c1 : Int) (a1_0 : Int) (a1_1 : Int) : F66 F51 ((m0_c0, m0_c1, ()), (a1_0, a1_1), ()) = ((F51 ()).bind fun y => if (a1_0 == y.1.1.1 && (a1_1 == y.1.1.2 && true)) = true then some ((true, ()), ()) else if decide (a1_1 ≥ 0) = true then if 0 ≤ a1_0 then if a1_0 < (↑m0_c0.length : Int) then some ((decide (a1_1 ≤ (↑(List.length (m0_c0.getD a1_0.toNat ((0, 0, false, false), [])).2) : Int)), ()), ()) else none else none else some ((false, ()), ()) : Option rs66.den) := by kernel_rfl
theorem F25_eq (F51 : TF51) (F65 : TF65) (F66 : TF66) (m0_c0 : List XB) (m0_c1 : Int) (a1_0 : Int) (a1_1 : Int) (b2_0 : Int) (b2_1 : Int) : F25 F51 F65 F66 ((m0_c0, m0_c1, ()), (a1_0, a1_1), (b2_0, b2_1), ()) = ((F51 ()).bind fun y => (F51 ()).bind fun y_1 => (F65 ((m0_c0, m0_c1, ()), (a1_0, a1_1), ())).bind fun y_2 => if (!y_2.1.1) = true then some ((false, 14, ()), ()) else (F65 ((m0_c0, m0_c1, ()), (b2_0, b2_1), ())).bind fun y_3 => if (!y_3.1.1) = true then some ((false, 14, ()), ()) else if ((a1_0 == y.1.1.1 && (a1_1 == y.1.1.2 && true)) == false && ((b2_0 == y_1.1.1.1 && (b2_1 == y_1.1.1.2 && true)) == false && true)) = true then some ((false, 14, ()), ()) else (F66 ((m0_c0, m0_c1, ()), (a1_0, a1_1), ())).bind fun y_4 => if (!y_4.1.1) = true then some ((false, 14, ()), ()) else (F66 ((m0_c0, m0_c1, ()), (b2_0, b2_1), ())).bind fun y_5 => if (!y_5.1.1) = true then some ((false, 14, ()), ()) else some (((a1_0 == y.1.1.1 && (a1_1 == y.1.1.2 && true)) == true && ((b2_0 == y_1.1.1.1 && (b2_1 == y_1.1.1.2 && true)) == true && true), -1, ()), ()) : Option rs25.den) := by kernel_rfl
theorem F67_eq (F68 : TF68) (n1 : Int) (b0_1 : Int) (nr1 : List XB) : F67 F68 (((), n1, ()), (((), b0_1, ()), nr1, ())) = ((if 0 ≤ n1 then if n1 < (↑nr1.length : Int) then if (((nr1.set n1.toNat (((nr1.getD n1.toNat ((0, 0, false, false), [])).1.1, (nr1.getD n1.toNat ((0, 0, false, false), [])).1.2.1, (nr1.getD n1.toNat ((0, 0, false, false), [])).1.2.2.1, true), (nr1.getD n1.toNat ((0, 0, false, false), [])).2)).getD n1.toNat ((0, 0, false, false), [])).1.1 == 0) = true then (F68 ((↑((nr1.set n1.toNat (((nr1.getD n1.toNat ((0, 0, false, false), [])).1.1, (nr1.getD n1.toNat ((0, 0, false, false), [])).1.2.1, (nr1.getD n1.toNat ((0, 0, false, false), [])).1.2.2.1, true), (nr1.getD n1.toNat ((0, 0, false, false), [])).2)).getD n1.toNat ((0, 0, false, false), [])).2.length : Int), ())).bind fun y => some (((), ()), ((), IntKind.i64.wrap (b0_1 - y.1.1), ()), nr1.set n1.toNat (((nr1.getD n1.toNat ((0, 0, false, false), [])).1.1, (nr1.getD n1.toNat ((0, 0, false, false), [])).1.2.1, (nr1.getD n1.toNat ((0, 0, false, false), [])).1.2.2.1, true), (nr1.getD n1.toNat ((0, 0, false, false), [])).2), ()) else some (((), ()), ((), b0_1, ()), nr1.set n1.toNat (((nr1.getD n1.toNat ((0, 0, false, false), [])).1.1, (nr1.getD n1.toNat ((0, 0, false, false), [])).1.2.1, (nr1.getD n1.toNat ((0, 0, false, false), [])).1.2.2.1, true), (nr1.getD n1.toNat ((0, 0, false, false), [])).2), ()) else none else none).bind fun z => some z : Option rs67.den) := by kernel_rfl
theorem F26_eq (F51 : TF51) (F65 : TF65) (F67 : TF67) (a1_0 : Int) (a1_1 : Int) (b0_1 : Int) (nr1 : List XB) : F26 F51 F65 F67 (((), (a1_0, a1_1), ()), (((), b0_1, ()), nr1, ())) = (((F51 ()).bind fun y => if (a1_0 == y.1.1.1 && (a1_1 == y.1.1.2 && true)) = true then some (((), 18, ()), ((), b0_1, ()), nr1, ()) else (F65 ((nr1, b0_1, ()), (a1_0, a1_1), ())).bind fun y => if (!y.1.1) = true then some (((), 18, ()), ((), b0_1, ()), nr1, ()) else if 0 ≤ a1_0 then if a1_0 < (↑nr1.length : Int) then if (!(nr1.getD a1_0.toNat ((0, 0, false, false), [])).1.1 == 0) = true then some (((), 18, ()), ((), b0_1, ()), nr1, ()) else if (!a1_1 == 0) = true then some (((), 18, ()), ((), b0_1, ()), nr1, ()) else if 0 ≤ a1_0 then if a1_0 < (↑nr1.length : Int) then if (nr1.getD a1_0.toNat ((0, 0, false, false), [])).1.2.2.2 = true then some (((), 15, ()), ((), b0_1, ()), nr1, ()) else (F67 (((), a1_0, ()), ((), b0_1, ()), nr1, ())).bind fun z => some (((), -1, ()), ((), z.2.1.2.1, ()), z.2.2.1, ()) else none else none else none else none).bind fun z => some z : Option rs26.den) := by kernel_rfl
theorem F27_eq (F50 : TF50) (F51 : TF51) (F52 : TF52) (F68 : TF68) (size1 : Int) (align2 : Int) (b0_1 : Int) (nr1 : List XB) : F27 F50 F51 F52 F68 (((), size1, align2, ()), (((), b0_1, ()), nr1, ())) = (((F50 (align2, ())).bind fun y => if (!y.1.1) = true then (F51 ()).bind fun y => some (((), (y.1.1.1, y.1.1.2), 3, ()), ((), b0_1, ()), nr1, ()) else if decide (size1 > 65536) = true then (F51 ()).bind fun y => some (((), (y.1.1.1, y.1.1.2), 0, ()), ((), b0_1, ()), nr1, ()) else (F68 (IntKind.i64.wrap size1, ())).bind fun y => if decide (IntKind.i64.wrap (b0_1 + y.1.1) > 65536) = true then (F51 ()).bind fun y => some (((), (y.1.1.1, y.1.1.2), 0, ()), ((), b0_1, ()), nr1, ()) else (F52 (((), (0, align2, false), IntKind.i64.wrap size1, ()), ((), b0_1, ()), nr1, ())).bind fun z => some (((), (z.1.2.1.1, z.1.2.1.2), z.1.2.2.1, ()), ((), z.2.1.2.1, ()), z.2.2.1, ())).bind fun z => some z : Option rs27.den) := by kernel_rfl
theorem F30_eq : F30 () = (some (((), ()), ((), 0, ()), [], ()) : Option rs30.den) := by kernel_rfl
theorem F35_eq (m0_c0 : List XR) (m0_c1 : Int) : F35 ((m0_c0, m0_c1, ()), ()) = (some ((m0_c1, ()), ()) : Option rs35.den) := by kernel_rfl
theorem F39_eq (a0_0 : Int) (a0_1 : Int) : F39 ((a0_0, a0_1), ()) = (some (((a0_0, a0_1), ()), ()) : Option rs39.den) := by kernel_rfl
theorem F18_eq (F39 : TF39) (w0_0 : Int) (w0_1 : Int) (w0_2 : Int) (w0_3 : Int) : F18 F39 ((w0_0, w0_1, w0_2, w0_3), ()) = ((F39 ((w0_2, w0_3), ())).bind fun y => some (((w0_0, w0_1, y.1.1.1, y.1.1.2), ()), ()) : Option rs18.den) := by kernel_rfl
theorem F20_eq (F55 : TF55) (F57 : TF57) (a1_0 : Int) (a1_1 : Int) (n2 : Int) (b0_1 : Int) (nr1 : List XB) : F20 F55 F57 (((), (a1_0, a1_1), n2, ()), (((), b0_1, ()), nr1, ())) = (((F55 ((nr1, b0_1, ()), ((a1_0, a1_1), n2, 0, true), ())).bind fun y => if (!y.1.1 == -1) = true then some (((), y.1.1, ()), ((), b0_1, ()), nr1, ()) else (F57 (((), ((a1_0, a1_1), n2, 0, true), ()), ((), b0_1, ()), nr1, ())).bind fun z => some (((), -1, ()), ((), z.2.1.2.1, ()), List.set z.2.2.1 z.1.2.1.1 ((List.getD z.2.2.1 z.1.2.1.1 ((0, 0, false, false), [])).1, List.take z.1.2.1.2.1 (List.getD z.2.2.1 z.1.2.1.1 ((0, 0, false, false), [])).2 ++ List.replicate z.1.2.1.2.2 (0, 0, 0, 0) ++ List.drop (z.1.2.1.2.1 + z.1.2.1.2.2) (List.getD z.2.2.1 z.1.2.1.1 ((0, 0, false, false), [])).2), ())).bind fun z => some z : Option rs20.den) := by kernel_rfl
theorem F38_eq (a0_0 : Int) (a0_1 : Int) : F38 ((a0_0, a0_1), ()) = (some (((a0_0, a0_1), ()), ()) : Option rs38.den) := by kernel_rfl
theorem F84_eq (F49 : TF49) (m0_c0 : List XB) (m0_c1 : Int) (n1 : Int) : F84 F49 ((m0_c0, m0_c1, ()), n1, ()) = (if decide (n1 < 0) = true then some ((8, ()), ()) else if decide (n1 ≥ (↑m0_c0.length : Int)) = true then some ((8, ()), ()) else if 0 ≤ n1 then if n1 < (↑m0_c0.length : Int) then (F49 ((m0_c0.getD n1.toNat ((0, 0, false, false), [])).1.2.2.2, 27, ())).bind fun y => some ((y.1.1, ()), ()) else none else none : Option rs84.den) := by kernel_rfl
theorem F40_eq (F67 : TF67) (F84 : TF84) (n1 : Int) (b0_1 : Int) (nr1 : List XB) : F40 F67 F84 (((), n1, ()), (((), b0_1, ()), nr1, ())) = (((F84 ((nr1, b0_1, ()), n1, ())).bind fun y => if (!y.1.1 == 0) = true then some (((), y.1.1, ()), ((), b0_1, ()), nr1, ()) else (F67 (((), n1, ()), ((), b0_1, ()), nr1, ())).bind fun z => some (((), 0, ()), ((), z.2.1.2.1, ()), z.2.2.1, ())).bind fun z => some z : Option rs40.den) := by kernel_rfl
theorem F41_eq (F38 : TF38) (w0_0 : Int) (w0_1 : Int) (w0_2 : Int) (w0_3 : Int) : F41 F38 ((w0_0, w0_1, w0_2, w0_3), ()) = ((F38 ((w0_2, w0_3), ())).bind fun y => some (((w0_0, w0_1, y.1.1.1, y.1.1.2), ()), ()) : Option rs41.den) := by kernel_rfl
theorem F86_eq (c0_0 : Int) (c0_1 : Int) (c0_2 : Int) (c0_3 : Int) : F86 ((c0_0, c0_1, c0_2, c0_3), ()) = (some ((!c0_0 == 1, ()), ()) : Option rs86.den) := by kernel_rfl
theorem S114_2_eq (F86 : TF86) (s0 : List (Int × (Int × (Int × Int)))) (t7 : Int) (t8 : Int) : S114_2 F86 ((s0, (), t7, t8, ()), ()) = (if decide (t8 < t7) = true then if 0 ≤ t8 then if t8 < (↑s0.length : Int) then (F86 (((s0.getD t8.toNat z4).1, (s0.getD t8.toNat z4).2.1, (s0.getD t8.toNat z4).2.2.1, (s0.getD t8.toNat z4).2.2.2), ())).bind fun y => if y.1.1 = true then some (Sum.inr (Sum.inl ((t8, ()), ()))) else some (Sum.inl ((s0, (), t7, IntKind.i64.wrap (t8 + 1), ()), ())) else none else none else some (Sum.inr (Sum.inr ((), ()))) : Option (z3f.den ⊕ denX z5V)) := by kernel_rfl
theorem F114_eq (g114_2 : z3f.den → Option (denX z5V)) (s0 : List (Int × (Int × (Int × Int)))) : F114 g114_2 (s0, (), ()) = ((g114_2 ((s0, (), (↑s0.length : Int), 0, ()), ())).bind fun y => Sum.elim (fun y => some ((y.1.1, ()), ())) (fun z => some ((-1, ()), ())) y : Option rs114.den) := by kernel_rfl
theorem F85_eq (F114 : TF114) (s0 : List (Int × (Int × (Int × Int)))) : F85 F114 (s0, (), ()) = ((F114 (s0, (), ())).bind fun y => some ((decide (y.1.1 ≥ 0), ()), ()) : Option rs85.den) := by kernel_rfl
theorem F88_eq (c0_0 : Int) (c0_1 : Int) (c0_2 : Int) (c0_3 : Int) : F88 ((c0_0, c0_1, c0_2, c0_3), ()) = (some ((c0_1, ()), ()) : Option rs88.den) := by kernel_rfl
theorem S87_3_eq (F88 : TF88) (t8 : List (Int × (Int × (Int × Int)))) (t9 : Int) (t10 : Int) (rw0 : List Int) : S87_3 F88 (((), (), t8, t9, t10, ()), (rw0, ())) = (if decide (t10 < t9) = true then if 0 ≤ t10 then if t10 < (↑t8.length : Int) then (F88 (((t8.getD t10.toNat z4).1, (t8.getD t10.toNat z4).2.1, (t8.getD t10.toNat z4).2.2.1, (t8.getD t10.toNat z4).2.2.2), ())).bind fun y => if rw0.length + [y.1.1].length ≤ 4294967296 then some (Sum.inl (((), (), t8, t9, IntKind.i64.wrap (t10 + 1), ()), rw0 ++ [y.1.1], ())) else none else none else none else some (Sum.inr (((), ()), rw0, ())) : Option (z4F.den ⊕ denX w87_3)) := by kernel_rfl
theorem F87_eq (g87_3 : z4F.den → Option (denX w87_3)) (l0 : List (Int × (Int × (Int × Int)))) : F87 g87_3 (l0, (), ()) = ((g87_3 (((), (), l0, (↑l0.length : Int), 0, ()), [], ())).bind fun y => some (((), ()), y.2.1, ()) : Option rs87.den) := by kernel_rfl
theorem F42_eq (F55 : TF55) (F57v : TF57v) (F85 : TF85) (F87 : TF87) (m0_c0 : List XB) (m0_c1 : Int) (a1_0 : Int) (a1_1 : Int) (n2 : Int) : F42 F55 F57v F85 F87 ((m0_c0, m0_c1, ()), (a1_0, a1_1), n2, ()) = (if decide (n2 > 65536) = true then some (((), 14, ()), [], ()) else (F55 ((m0_c0, m0_c1, ()), ((a1_0, a1_1), n2, 0, false), ())).bind fun y => if (!y.1.1 == -1) = true then some (((), y.1.1, ()), [], ()) else (F57v ((m0_c0, m0_c1, ()), ((a1_0, a1_1), n2, 0, false), ())).bind fun y => (F85 (y.1.1, (), ())).bind fun y_1 => if y_1.1.1 = true then some (((), 13, ()), [], ()) else (F87 (y.1.1, (), ())).bind fun y => some (((), -1, ()), y.2.1, ()) : Option rs42.den) := by kernel_rfl
theorem F89_eq (F84 : TF84) (n1 : Int) (offset2 : Int) (many3 : Int) (b0_1 : Int) (nr1 : List XB) : F89 F84 (((), n1, offset2, many3, ()), (((), b0_1, ()), nr1, ())) = ((F84 ((nr1, b0_1, ()), n1, ())).bind fun y => if (!y.1.1 == 0) = true then some (((), (0, 0, 0), y.1.1, ()), ((), b0_1, ()), nr1, ()) else if 0 ≤ n1 then if n1 < (↑nr1.length : Int) then if decide (offset2 < 0) = true then some (((), (0, 0, 0), 26, ()), ((), b0_1, ()), nr1, ()) else if decide (offset2 > (↑(nr1.getD n1.toNat ((0, 0, false, false), [])).2.length : Int)) = true then some (((), (0, 0, 0), 26, ()), ((), b0_1, ()), nr1, ()) else if decide (IntKind.i64.wrap ((↑(nr1.getD n1.toNat ((0, 0, false, false), [])).2.length : Int) - offset2) < many3) = true then some (((), (0, 0, 0), 26, ()), ((), b0_1, ()), nr1, ()) else if 0 ≤ offset2 then if offset2 ≤ (↑(nr1.getD n1.toNat ((0, 0, false, false), [])).2.length : Int) then if (↑(nr1.getD n1.toNat ((0, 0, false, false), [])).2.length : Int) ≤ (↑(nr1.getD n1.toNat ((0, 0, false, false), [])).2.length : Int) then if many3 = many3 then if 0 ≤ many3 then if many3 ≤ (↑((nr1.getD n1.toNat ((0, 0, false, false), [])).2.length - offset2.toNat) : Int) then some (((), (n1.toNat, 0 + offset2.toNat, many3.toNat), 0, ()), ((), b0_1, ()), nr1, ()) else none else none else none else none else none else none else none else none : Option rs89.den) := by kernel_rfl
theorem S43_6_eq (undefined4 : List Bool) (l11j : Nat) (l11o : Nat) (l11l : Nat) (t41 : List Int) (t42 : Int) (t43 : Int) (b0_1 : Int) (nr1 : List XB) : S43_6 (((), undefined4, (l11j, l11o, l11l), t41, t42, t43, ()), (((), b0_1, ()), nr1, ())) = (if decide (t43 < t42) = true then if 0 ≤ t43 then if t43 < (↑t41.length : Int) then if 0 ≤ t43 then if t43 < (↑l11l : Int) then if decide ((↑undefined4.length : Int) > 0) = true then if 0 ≤ t43 then if t43 < (↑undefined4.length : Int) then if undefined4.getD t43.toNat false = true then if 0 ≤ t43 then if t43 < (↑l11l : Int) then some (Sum.inl (((), undefined4, (l11j, l11o, l11l), t41, t42, IntKind.i64.wrap (t43 + 1), ()), ((), b0_1, ()), (nr1.set l11j ((nr1.getD l11j ((0, 0, false, false), [])).1, (nr1.getD l11j ((0, 0, false, false), [])).2.set (l11o + t43.toNat) (1, t41.getD t43.toNat 0, 0, 0))).set l11j (((nr1.set l11j ((nr1.getD l11j ((0, 0, false, false), [])).1, (nr1.getD l11j ((0, 0, false, false), [])).2.set (l11o + t43.toNat) (1, t41.getD t43.toNat 0, 0, 0))).getD l11j ((0, 0, false, false), [])).1, ((nr1.set l11j ((nr1.getD l11j ((0, 0, false, false), [])).1, (nr1.getD l11j ((0, 0, false, false), [])).2.set (l11o + t43.toNat) (1, t41.getD t43.toNat 0, 0, 0))).getD l11j ((0, 0, false, false), [])).2.set (l11o + t43.toNat) (0, 0, 0, 0)), ())) else none else none else some (Sum.inl (((), undefined4, (l11j, l11o, l11l), t41, t42, IntKind.i64.wrap (t43 + 1), ()), ((), b0_1, ()), nr1.set l11j ((nr1.getD l11j ((0, 0, false, false), [])).1, (nr1.getD l11j ((0, 0, false, false), [])).2.set (l11o + t43.toNat) (1, t41.getD t43.toNat 0, 0, 0)), ())) else none else none else some (Sum.inl (((), undefined4, (l11j, l11o, l11l), t41, t42, IntKind.i64.wrap (t43 + 1), ()), ((), b0_1, ()), nr1.set l11j ((nr1.getD l11j ((0, 0, false, false), [])).1, (nr1.getD l11j ((0, 0, false, false), [])).2.set (l11o + t43.toNat) (1, t41.getD t43.toNat 0, 0, 0)), ())) else none else none else none else none else some (Sum.inr (((), ()), ((), b0_1, ()), nr1, ())) : Option (z4J.den ⊕ denX w43_6)) := by kernel_rfl
theorem F43_eq (F48 : TF48) (F49 : TF49) (F89 : TF89) (g43_6 : z4J.den → Option (denX w43_6)) (n1 : Int) (offset2 : Int) (b3 : List Int) (undefined4 : List Bool) (b0_1 : Int) (nr1 : List XB) : F43 F48 F49 F89 g43_6 (((), n1, offset2, b3, undefined4, ()), (((), b0_1, ()), nr1, ())) = (((F89 (((), n1, offset2, (↑b3.length : Int), ()), ((), b0_1, ()), nr1, ())).bind fun z => if decide ((↑undefined4.length : Int) > 0) = true then (F49 (!(↑undefined4.length : Int) == (↑b3.length : Int), 2, ())).bind fun y => (F48 ([z.1.2.2.1, y.1.1], ())).bind fun y => if (!y.1.1 == 0) = true then some (((), y.1.1, ()), ((), z.2.1.2.1, ()), z.2.2.1, ()) else (g43_6 (((), undefined4, (z.1.2.1.1, z.1.2.1.2.1, z.1.2.1.2.2), b3, (↑b3.length : Int), 0, ()), ((), z.2.1.2.1, ()), z.2.2.1, ())).bind fun y => some (((), 0, ()), ((), y.2.1.2.1, ()), y.2.2.1, ()) else (F49 (false, 2, ())).bind fun y => (F48 ([z.1.2.2.1, y.1.1], ())).bind fun y => if (!y.1.1 == 0) = true then some (((), y.1.1, ()), ((), z.2.1.2.1, ()), z.2.2.1, ()) else (g43_6 (((), undefined4, (z.1.2.1.1, z.1.2.1.2.1, z.1.2.1.2.2), b3, (↑b3.length : Int), 0, ()), ((), z.2.1.2.1, ()), z.2.2.1, ())).bind fun y => some (((), 0, ()), ((), y.2.1.2.1, ()), y.2.2.1, ())).bind fun z => some z : Option rs43.den) := by kernel_rfl
theorem F44_eq (l0 : List Int) : F44 (l0, ()) = (if l0.length ≤ 4294967296 then some (((), ()), l0, ()) else none : Option rs44.den) := by kernel_rfl
theorem F45_eq (l0 : List Bool) : F45 (l0, ()) = (if l0.length ≤ 4294967296 then some (((), ()), l0, ()) else none : Option rs45.den) := by kernel_rfl
theorem F46_eq (F48 : TF48) (F49 : TF49) (F58 : TF58) (F65 : TF65) (F89 : TF89) (n1 : Int) (offset2 : Int) (to3_0 : Int) (to3_1 : Int) (b0_1 : Int) (nr1 : List XB) : F46 F48 F49 F58 F65 F89 (((), n1, offset2, (to3_0, to3_1), ()), (((), b0_1, ()), nr1, ())) = (((F89 (((), n1, offset2, 8, ()), ((), b0_1, ()), nr1, ())).bind fun z => (F65 ((z.2.2.1, z.2.1.2.1, ()), (to3_0, to3_1), ())).bind fun y => (F49 (!y.1.1, 1, ())).bind fun y => (F48 ([z.1.2.2.1, y.1.1], ())).bind fun y => if (!y.1.1 == 0) = true then some (((), y.1.1, ()), ((), z.2.1.2.1, ()), z.2.2.1, ()) else (F58 ((z.2.2.1, z.2.1.2.1, ()), [(112 : UInt8), (116 : UInt8), (114 : UInt8)], 8, (2, 0, to3_0, to3_1), ())).bind fun y => some (((), 0, ()), ((), z.2.1.2.1, ()), List.set z.2.2.1 z.1.2.1.1 ((List.getD z.2.2.1 z.1.2.1.1 ((0, 0, false, false), [])).1, List.take z.1.2.1.2.1 (List.getD z.2.2.1 z.1.2.1.1 ((0, 0, false, false), [])).2 ++ List.take z.1.2.1.2.2 y.2.1 ++ List.drop (z.1.2.1.2.1 + min (List.length y.2.1) z.1.2.1.2.2) (List.getD z.2.2.1 z.1.2.1.1 ((0, 0, false, false), [])).2), ())).bind fun z => some z : Option rs46.den) := by kernel_rfl
theorem F13_eq (F14 : TF14) (F16 : TF16) (F17 : TF17) (F18 : TF18) (F19 : TF19) (F20 : TF20) (F25 : TF25) (F26 : TF26) (F27 : TF27) (F38 : TF38) (F39 : TF39) (F40 : TF40) (F41 : TF41) (F42 : TF42) (F43 : TF43) (F44 : TF44) (F45 : TF45) (F46 : TF46) (F47 : TF47) (a1_0 : Int) (a1_1 : List UInt8) (a1_2_0 : Int) (a1_2_1 : Int) (a1_3_0 : Int) (a1_3_1 : Int) (a1_4 : Int) (a1_5 : Int) (a1_6 : Bool) (a1_7 : Int) (a1_8_0 : Int) (a1_8_1 : Int) (a1_8_2 : Int) (a1_8_3 : Int) (a1_9 : List Int) (a1_10 : List Bool) (b0_1 : Int) (nr1 : List XB) : F13 F14 F16 F17 F18 F19 F20 F25 F26 F27 F38 F39 F40 F41 F42 F43 F44 F45 F46 F47 (((), (a1_0, a1_1, (a1_2_0, a1_2_1), (a1_3_0, a1_3_1), a1_4, a1_5, a1_6, a1_7, (a1_8_0, a1_8_1, a1_8_2, a1_8_3), a1_9, a1_10), ()), (((), b0_1, ()), nr1, ())) = ((if (a1_0 == 0) = true then (F14 (((), a1_4, IntKind.i64.wrap a1_7, a1_5, a1_6, ()), ((), b0_1, ()), nr1, ())).bind fun z => (F38 ((z.1.2.1.1, z.1.2.1.2), ())).bind fun y => some (((), ((y.1.1.1, y.1.1.2), (0, 0, 0, 0), false, z.1.2.2.1, []), ()), ((), z.2.1.2.1, ()), z.2.2.1, ()) else if (a1_0 == 1) = true then (F27 (((), a1_7, a1_5, ()), ((), b0_1, ()), nr1, ())).bind fun z => (F38 ((z.1.2.1.1, z.1.2.1.2), ())).bind fun y => some (((), ((y.1.1.1, y.1.1.2), (0, 0, 0, 0), false, z.1.2.2.1, []), ()), ((), z.2.1.2.1, ()), z.2.2.1, ()) else if (a1_0 == 2) = true then (F39 ((a1_2_0, a1_2_1), ())).bind fun y => (F26 (((), (y.1.1.1, y.1.1.2), ()), ((), b0_1, ()), nr1, ())).bind fun z => some (((), ((0, 0), (0, 0, 0, 0), false, z.1.2.1, []), ()), ((), z.2.1.2.1, ()), z.2.2.1, ()) else if (a1_0 == 3) = true then (F40 (((), a1_4, ()), ((), b0_1, ()), nr1, ())).bind fun z => some (((), ((0, 0), (0, 0, 0, 0), false, z.1.2.1, []), ()), ((), z.2.1.2.1, ()), z.2.2.1, ()) else if (a1_0 == 4) = true then (F39 ((a1_2_0, a1_2_1), ())).bind fun y => (F16 ((nr1, b0_1, ()), a1_1, (y.1.1.1, y.1.1.2), ())).bind fun y => (F41 ((y.1.1.1, y.1.1.2.1, y.1.1.2.2.1, y.1.1.2.2.2), ())).bind fun y_1 => some (((), ((0, 0), (y_1.1.1.1, y_1.1.1.2.1, y_1.1.1.2.2.1, y_1.1.1.2.2.2), false, y.1.2.1, []), ()), ((), b0_1, ()), nr1, ()) else if (a1_0 == 5) = true then (F39 ((a1_2_0, a1_2_1), ())).bind fun y => (F18 ((a1_8_0, a1_8_1, a1_8_2, a1_8_3), ())).bind fun y_1 => (F17 (((), a1_1, (y.1.1.1, y.1.1.2), (y_1.1.1.1, y_1.1.1.2.1, y_1.1.1.2.2.1, y_1.1.1.2.2.2), ()), ((), b0_1, ()), nr1, ())).bind fun z => some (((), ((0, 0), (0, 0, 0, 0), false, z.1.2.1, []), ()), ((), z.2.1.2.1, ()), z.2.2.1, ()) else if (a1_0 == 6) = true then (F39 ((a1_2_0, a1_2_1), ())).bind fun y => (F39 ((a1_3_0, a1_3_1), ())).bind fun y_1 => (F19 (((), (y.1.1.1, y.1.1.2), (y_1.1.1.1, y_1.1.1.2), a1_4, ()), ((), b0_1, ()), nr1, ())).bind fun z => some (((), ((0, 0), (0, 0, 0, 0), false, z.1.2.1, []), ()), ((), z.2.1.2.1, ()), z.2.2.1, ()) else if (a1_0 == 7) = true then (F39 ((a1_2_0, a1_2_1), ())).bind fun y => (F20 (((), (y.1.1.1, y.1.1.2), a1_4, ()), ((), b0_1, ()), nr1, ())).bind fun z => some (((), ((0, 0), (0, 0, 0, 0), false, z.1.2.1, []), ()), ((), z.2.1.2.1, ()), z.2.2.1, ()) else if (a1_0 == 8) = true then (F39 ((a1_2_0, a1_2_1), ())).bind fun y => (F42 ((nr1, b0_1, ()), (y.1.1.1, y.1.1.2), a1_4, ())).bind fun y => some (((), ((0, 0), (0, 0, 0, 0), false, y.1.2.1, y.2.1), ()), ((), b0_1, ()), nr1, ()) else if (a1_0 == 9) = true then (F44 (a1_9, ())).bind fun y => (F45 (a1_10, ())).bind fun y_1 => (F43 (((), a1_2_0, a1_2_1, y.2.1, y_1.2.1, ()), ((), b0_1, ()), nr1, ())).bind fun z => some (((), ((0, 0), (0, 0, 0, 0), false, z.1.2.1, []), ()), ((), z.2.1.2.1, ()), z.2.2.1, ()) else if (a1_0 == 10) = true then (F39 ((a1_3_0, a1_3_1), ())).bind fun y => (F46 (((), a1_2_0, a1_2_1, (y.1.1.1, y.1.1.2), ()), ((), b0_1, ()), nr1, ())).bind fun z => some (((), ((0, 0), (0, 0, 0, 0), false, z.1.2.1, []), ()), ((), z.2.1.2.1, ()), z.2.2.1, ()) else if (a1_0 == 11) = true then (F39 ((a1_2_0, a1_2_1), ())).bind fun y => (F39 ((a1_3_0, a1_3_1), ())).bind fun y_1 => (F25 ((nr1, b0_1, ()), (y.1.1.1, y.1.1.2), (y_1.1.1.1, y_1.1.1.2), ())).bind fun y => some (((), ((0, 0), (0, 0, 0, 0), y.1.1, y.1.2.1, []), ()), ((), b0_1, ()), nr1, ()) else if (a1_0 == 12) = true then (F39 ((a1_2_0, a1_2_1), ())).bind fun y => (F47 ((nr1, b0_1, ()), (y.1.1.1, y.1.1.2), a1_4, ())).bind fun y => (F38 ((y.1.1.1, y.1.1.2), ())).bind fun y_1 => some (((), ((y_1.1.1.1, y_1.1.1.2), (0, 0, 0, 0), false, y.1.2.1, []), ()), ((), b0_1, ()), nr1, ()) else some (((), ((0, 0), (0, 0, 0, 0), false, 0, []), ()), ((), b0_1, ()), nr1, ())).bind fun z => some z : Option rs13.den) := by kernel_rfl
theorem F61_eq (a0 : List Int) (b1 : List Int) : F61 (a0, b1, ()) = (some ((List.map (fun n => UInt8.ofNat n.toNat) a0 == List.map (fun n => UInt8.ofNat n.toNat) b1, ()), ()) : Option rs61.den) := by kernel_rfl
theorem F21_eq (F61 : TF61) (a0_0_0 : Int) (a0_0_1 : Int) (a0_1_0 : Int) (a0_1_1 : Int) (a0_1_2 : Int) (a0_1_3 : Int) (a0_2 : Bool) (a0_3 : Int) (a0_4 : List Int) (b1_0_0 : Int) (b1_0_1 : Int) (b1_1_0 : Int) (b1_1_1 : Int) (b1_1_2 : Int) (b1_1_3 : Int) (b1_2 : Bool) (b1_3 : Int) (b1_4 : List Int) : F21 F61 (((a0_0_0, a0_0_1), (a0_1_0, a0_1_1, a0_1_2, a0_1_3), a0_2, a0_3, a0_4), ((b1_0_0, b1_0_1), (b1_1_0, b1_1_1, b1_1_2, b1_1_3), b1_2, b1_3, b1_4), ()) = (if (a0_0_0 == b1_0_0 && (a0_0_1 == b1_0_1 && true)) = true then if (a0_1_0 == b1_1_0 && (a0_1_1 == b1_1_1 && (a0_1_2 == b1_1_2 && (a0_1_3 == b1_1_3 && true) && true))) = true then if (a0_2 == b1_2) = true then if (a0_3 == b1_3) = true then (F61 (a0_4, b1_4, ())).bind fun y => some ((y.1.1, ()), ()) else some ((false, ()), ()) else some ((false, ()), ()) else some ((false, ()), ()) else some ((false, ()), ()) : Option rs21.den) := by kernel_rfl
theorem S100_2_eq (l0 : List Int) (i3 : Int) : S100_2 ((l0, i3, ()), ()) = (if decide (i3 < (↑l0.length : Int)) = true then if 0 ≤ i3 then if i3 < (↑l0.length : Int) then if (!l0.getD i3.toNat 0 == 0) = true then if 0 ≤ i3 then if i3 < (↑l0.length : Int) then some (Sum.inr (Sum.inl ((l0.getD i3.toNat 0, ()), ()))) else none else none else some (Sum.inl ((l0, IntKind.i64.wrap (i3 + 1), ()), ())) else none else none else some (Sum.inr (Sum.inr ((), ()))) : Option (z3i.den ⊕ denX z5Y)) := by kernel_rfl
theorem F100_eq (g100_2 : z3i.den → Option (denX z5Y)) (l0 : List Int) : F100 g100_2 (l0, ()) = ((g100_2 ((l0, 0, ()), ())).bind fun y => Sum.elim (fun y => some ((y.1.1, ()), ())) (fun z => some ((0, ()), ())) y : Option rs100.den) := by kernel_rfl
theorem F101_eq (is0 : Bool) (e1 : Int) : F101 (is0, e1, ()) = (if is0 = true then some ((e1, ()), ()) else some ((0, ()), ()) : Option z6K.den) := by kernel_rfl
theorem F102_eq (n0 : Int) : F102 (n0, ()) = (if (n0 == 1) = true then some ((true, ()), ()) else if (n0 == 2) = true then some ((true, ()), ()) else if (n0 == 4) = true then some ((true, ()), ()) else if (n0 == 8) = true then some ((true, ()), ()) else some ((n0 == 16, ()), ()) : Option z6J.den) := by kernel_rfl
theorem F103_eq : F103 () = (some (((-1, 0), ()), ()) : Option z2u.den) := by kernel_rfl
theorem F105_eq (size0 : Int) : F105 (size0, ()) = (some ((IntKind.i64.wrap (IntKind.i64.wrap (IntKind.i64.wrap ((IntKind.i64.wrap (size0 + 15)).tdiv 16) * 16) + 16), ()), ()) : Option z4S.den) := by kernel_rfl
theorem F104_eq (F105 : z7J) (kind1 : Int) (size2 : Int) (align3 : Int) (constant4 : Bool) (b0_1 : Int) (nr1 : List XR) : F104 F105 (((), kind1, size2, align3, constant4, ()), (((), b0_1, ()), nr1, ())) = ((if 0 ≤ size2 then if size2 ≤ size2 then if size2 ≤ ((4294967296 : Nat) : Int) then if nr1.length + [((kind1, align3, constant4, true), List.replicate size2.toNat z5)].length ≤ 4294967296 then if (kind1 == 0) = true then (F105 (size2, ())).bind fun y => some (((), (IntKind.i64.wrap ((↑(nr1 ++ [((kind1, align3, constant4, true), List.replicate size2.toNat z5)]).length : Int) - 1), 0), ()), ((), IntKind.i64.wrap (b0_1 + y.1.1), ()), nr1 ++ [((kind1, align3, constant4, true), List.replicate size2.toNat z5)], ()) else some (((), (IntKind.i64.wrap ((↑(nr1 ++ [((kind1, align3, constant4, true), List.replicate size2.toNat z5)]).length : Int) - 1), 0), ()), ((), b0_1, ()), nr1 ++ [((kind1, align3, constant4, true), List.replicate size2.toNat z5)], ()) else none else none else none else none).bind fun z => some z : Option z6I.den) := by kernel_rfl
theorem F71_eq (F100 : TF100) (F101 : TF101) (F102 : TF102) (F103 : z2Z) (F104 : TF104) (kind1 : Int) (size2 : Int) (align3 : Int) (constant4 : Bool) (b0_1 : Int) (nr1 : List XR) : F71 F100 F101 F102 F103 F104 (((), kind1, size2, align3, constant4, ()), (((), b0_1, ()), nr1, ())) = ((if decide (kind1 < 0) = true then (F101 (true, 11, ())).bind fun y => if decide (size2 < 0) = true then (F101 (true, 3, ())).bind fun y_1 => (F101 (decide ((↑nr1.length : Int) ≥ 100000), 22, ())).bind fun y_2 => (F100 ([y.1.1, y_1.1.1, y_2.1.1], ())).bind fun y => if (!y.1.1 == 0) = true then (F103 ()).bind fun y_3 => some (((), (y_3.1.1.1, y_3.1.1.2), y.1.1, ()), ((), b0_1, ()), nr1, ()) else (F104 (((), kind1, size2, align3, constant4, ()), ((), b0_1, ()), nr1, ())).bind fun z => some (((), (z.1.2.1.1, z.1.2.1.2), 0, ()), ((), z.2.1.2.1, ()), z.2.2.1, ()) else if decide (size2 > 65536) = true then (F101 (true, 3, ())).bind fun y_1 => (F101 (decide ((↑nr1.length : Int) ≥ 100000), 22, ())).bind fun y_2 => (F100 ([y.1.1, y_1.1.1, y_2.1.1], ())).bind fun y => if (!y.1.1 == 0) = true then (F103 ()).bind fun y_3 => some (((), (y_3.1.1.1, y_3.1.1.2), y.1.1, ()), ((), b0_1, ()), nr1, ()) else (F104 (((), kind1, size2, align3, constant4, ()), ((), b0_1, ()), nr1, ())).bind fun z => some (((), (z.1.2.1.1, z.1.2.1.2), 0, ()), ((), z.2.1.2.1, ()), z.2.2.1, ()) else (F102 (align3, ())).bind fun y_1 => (F101 (!y_1.1.1, 3, ())).bind fun y_2 => (F101 (decide ((↑nr1.length : Int) ≥ 100000), 22, ())).bind fun y_3 => (F100 ([y.1.1, y_2.1.1, y_3.1.1], ())).bind fun y => if (!y.1.1 == 0) = true then (F103 ()).bind fun y_4 => some (((), (y_4.1.1.1, y_4.1.1.2), y.1.1, ()), ((), b0_1, ()), nr1, ()) else (F104 (((), kind1, size2, align3, constant4, ()), ((), b0_1, ()), nr1, ())).bind fun z => some (((), (z.1.2.1.1, z.1.2.1.2), 0, ()), ((), z.2.1.2.1, ()), z.2.2.1, ()) else (F101 (decide (kind1 ≥ 3), 11, ())).bind fun y => if decide (size2 < 0) = true then (F101 (true, 3, ())).bind fun y_1 => (F101 (decide ((↑nr1.length : Int) ≥ 100000), 22, ())).bind fun y_2 => (F100 ([y.1.1, y_1.1.1, y_2.1.1], ())).bind fun y => if (!y.1.1 == 0) = true then (F103 ()).bind fun y_3 => some (((), (y_3.1.1.1, y_3.1.1.2), y.1.1, ()), ((), b0_1, ()), nr1, ()) else (F104 (((), kind1, size2, align3, constant4, ()), ((), b0_1, ()), nr1, ())).bind fun z => some (((), (z.1.2.1.1, z.1.2.1.2), 0, ()), ((), z.2.1.2.1, ()), z.2.2.1, ()) else if decide (size2 > 65536) = true then (F101 (true, 3, ())).bind fun y_1 => (F101 (decide ((↑nr1.length : Int) ≥ 100000), 22, ())).bind fun y_2 => (F100 ([y.1.1, y_1.1.1, y_2.1.1], ())).bind fun y => if (!y.1.1 == 0) = true then (F103 ()).bind fun y_3 => some (((), (y_3.1.1.1, y_3.1.1.2), y.1.1, ()), ((), b0_1, ()), nr1, ()) else (F104 (((), kind1, size2, align3, constant4, ()), ((), b0_1, ()), nr1, ())).bind fun z => some (((), (z.1.2.1.1, z.1.2.1.2), 0, ()), ((), z.2.1.2.1, ()), z.2.2.1, ()) else (F102 (align3, ())).bind fun y_1 => (F101 (!y_1.1.1, 3, ())).bind fun y_2 => (F101 (decide ((↑nr1.length : Int) ≥ 100000), 22, ())).bind fun y_3 => (F100 ([y.1.1, y_2.1.1, y_3.1.1], ())).bind fun y => if (!y.1.1 == 0) = true then (F103 ()).bind fun y_4 => some (((), (y_4.1.1.1, y_4.1.1.2), y.1.1, ()), ((), b0_1, ()), nr1, ()) else (F104 (((), kind1, size2, align3, constant4, ()), ((), b0_1, ()), nr1, ())).bind fun z => some (((), (z.1.2.1.1, z.1.2.1.2), 0, ()), ((), z.2.1.2.1, ()), z.2.2.1, ())).bind fun z => some z : Option rs71.den) := by kernel_rfl
theorem F72_eq (F102 : TF102) (F103 : z2Z) (F104 : TF104) (F105 : z7J) (size1 : Int) (align2 : Int) (b0_1 : Int) (nr1 : List XR) : F72 F102 F103 F104 F105 (((), size1, align2, ()), (((), b0_1, ()), nr1, ())) = (((F102 (align2, ())).bind fun y => if (!y.1.1) = true then (F103 ()).bind fun y => some (((), (y.1.1.1, y.1.1.2), 3, ()), ((), b0_1, ()), nr1, ()) else if decide (size1 > 65536) = true then (F103 ()).bind fun y => some (((), (y.1.1.1, y.1.1.2), 0, ()), ((), b0_1, ()), nr1, ()) else (F105 (IntKind.i64.wrap size1, ())).bind fun y => if decide (IntKind.i64.wrap (b0_1 + y.1.1) > 65536) = true then (F103 ()).bind fun y => some (((), (y.1.1.1, y.1.1.2), 0, ()), ((), b0_1, ()), nr1, ()) else if decide ((↑nr1.length : Int) ≥ 100000) = true then (F103 ()).bind fun y => some (((), (y.1.1.1, y.1.1.2), 22, ()), ((), b0_1, ()), nr1, ()) else (F104 (((), 0, IntKind.i64.wrap size1, align2, false, ()), ((), b0_1, ()), nr1, ())).bind fun z => some (((), (z.1.2.1.1, z.1.2.1.2), 0, ()), ((), z.2.1.2.1, ()), z.2.2.1, ())).bind fun z => some z : Option rs72.den) := by kernel_rfl
theorem F106_eq (m0_c0 : List XR) (m0_c1 : Int) (a1_0 : Int) (a1_1 : Int) : F106 ((m0_c0, m0_c1, ()), (a1_0, a1_1), ()) = (if (a1_0 == -1) = true then some ((a1_1 == 0, ()), ()) else if decide (a1_0 ≥ 0) = true then if decide (a1_0 < (↑m0_c0.length : Int)) = true then if decide (a1_1 ≥ -1099511627776) = true then some ((decide (a1_1 ≤ 1099511627776), ()), ()) else some ((false, ()), ()) else some ((false, ()), ()) else some ((false, ()), ()) : Option z2j.den) := by kernel_rfl
theorem F107_eq (F105 : z7J) (n1 : Int) (b0_1 : Int) (nr1 : List XR) : F107 F105 (((), n1, ()), (((), b0_1, ()), nr1, ())) = ((if 0 ≤ n1 then if n1 < (↑nr1.length : Int) then if (((nr1.set n1.toNat (((nr1.getD n1.toNat ((0, 0, false, false), [])).1.1, (nr1.getD n1.toNat ((0, 0, false, false), [])).1.2.1, (nr1.getD n1.toNat ((0, 0, false, false), [])).1.2.2.1, false), (nr1.getD n1.toNat ((0, 0, false, false), [])).2)).getD n1.toNat ((0, 0, false, false), [])).1.1 == 0) = true then (F105 ((↑((nr1.set n1.toNat (((nr1.getD n1.toNat ((0, 0, false, false), [])).1.1, (nr1.getD n1.toNat ((0, 0, false, false), [])).1.2.1, (nr1.getD n1.toNat ((0, 0, false, false), [])).1.2.2.1, false), (nr1.getD n1.toNat ((0, 0, false, false), [])).2)).getD n1.toNat ((0, 0, false, false), [])).2.length : Int), ())).bind fun y => some (((), ()), ((), IntKind.i64.wrap (b0_1 - y.1.1), ()), nr1.set n1.toNat (((nr1.getD n1.toNat ((0, 0, false, false), [])).1.1, (nr1.getD n1.toNat ((0, 0, false, false), [])).1.2.1, (nr1.getD n1.toNat ((0, 0, false, false), [])).1.2.2.1, false), (nr1.getD n1.toNat ((0, 0, false, false), [])).2), ()) else some (((), ()), ((), b0_1, ()), nr1.set n1.toNat (((nr1.getD n1.toNat ((0, 0, false, false), [])).1.1, (nr1.getD n1.toNat ((0, 0, false, false), [])).1.2.1, (nr1.getD n1.toNat ((0, 0, false, false), [])).1.2.2.1, false), (nr1.getD n1.toNat ((0, 0, false, false), [])).2), ()) else none else none).bind fun z => some z : Option z6H.den) := by kernel_rfl
theorem F73_eq (F106 : z2M) (F107 : TF107) (a1_0 : Int) (a1_1 : Int) (b0_1 : Int) (nr1 : List XR) : F73 F106 F107 (((), (a1_0, a1_1), ()), (((), b0_1, ()), nr1, ())) = (((F106 ((nr1, b0_1, ()), (a1_0, a1_1), ())).bind fun y => if (!y.1.1) = true then some (((), 18, ()), ((), b0_1, ()), nr1, ()) else if decide (a1_0 < 0) = true then some (((), 18, ()), ((), b0_1, ()), nr1, ()) else if 0 ≤ a1_0 then if a1_0 < (↑nr1.length : Int) then if (!(nr1.getD a1_0.toNat ((0, 0, false, false), [])).1.1 == 0) = true then some (((), 18, ()), ((), b0_1, ()), nr1, ()) else if (!a1_1 == 0) = true then some (((), 18, ()), ((), b0_1, ()), nr1, ()) else if 0 ≤ a1_0 then if a1_0 < (↑nr1.length : Int) then if (!(nr1.getD a1_0.toNat ((0, 0, false, false), [])).1.2.2.2) = true then some (((), 15, ()), ((), b0_1, ()), nr1, ()) else (F107 (((), a1_0, ()), ((), b0_1, ()), nr1, ())).bind fun z => some (((), -1, ()), ((), z.2.1.2.1, ()), z.2.2.1, ()) else none else none else none else none).bind fun z => some z : Option rs73.den) := by kernel_rfl
theorem F108_eq (F101 : TF101) (m0_c0 : List XR) (m0_c1 : Int) (n1 : Int) : F108 F101 ((m0_c0, m0_c1, ()), n1, ()) = (if decide (n1 < 0) = true then some ((8, ()), ()) else if decide (n1 ≥ (↑m0_c0.length : Int)) = true then some ((8, ()), ()) else if 0 ≤ n1 then if n1 < (↑m0_c0.length : Int) then (F101 (!(m0_c0.getD n1.toNat ((0, 0, false, false), [])).1.2.2.2, 27, ())).bind fun y => some ((y.1.1, ()), ()) else none else none : Option z4R.den) := by kernel_rfl
theorem F74_eq (F107 : TF107) (F108 : z7I) (n1 : Int) (b0_1 : Int) (nr1 : List XR) : F74 F107 F108 (((), n1, ()), (((), b0_1, ()), nr1, ())) = (((F108 ((nr1, b0_1, ()), n1, ())).bind fun y => if (!y.1.1 == 0) = true then some (((), y.1.1, ()), ((), b0_1, ()), nr1, ()) else (F107 (((), n1, ()), ((), b0_1, ()), nr1, ())).bind fun z => some (((), 0, ()), ((), z.2.1.2.1, ()), z.2.2.1, ())).bind fun z => some z : Option rs74.den) := by kernel_rfl
theorem F116_eq (c0 : Int) : F116 (c0, ()) = (if decide (c0 ≥ 48) = true then some ((decide (c0 ≤ 57), ()), ()) else some ((false, ()), ()) : Option rs116.den) := by kernel_rfl
theorem S91_5_eq (F116 : TF116) (s0 : List UInt8) (n4 : Int) (i5 : Int) : S91_5 F116 ((s0, n4, i5, ()), ()) = (if decide (i5 < (↑s0.length : Int)) = true then if 0 ≤ i5 then if i5 < (↑s0.length : Int) then (F116 ((↑(s0.getD i5.toNat (0 : UInt8)).toNat : Int), ())).bind fun y => if (!y.1.1) = true then some (Sum.inr (Sum.inl ((0, false, ()), ()))) else if 0 ≤ i5 then if i5 < (↑s0.length : Int) then some (Sum.inl ((s0, IntKind.i64.wrap (IntKind.i64.wrap (10 * n4) + IntKind.i64.wrap (IntKind.u8.wrap ((↑(s0.getD i5.toNat (0 : UInt8)).toNat : Int) - 48))), IntKind.i64.wrap (i5 + 1), ()), ())) else none else none else none else none else some (Sum.inr (Sum.inr ((n4, ()), ()))) : Option (z4E.den ⊕ denX w91_5)) := by kernel_rfl
theorem F91_eq (g91_5 : z4E.den → Option (denX w91_5)) (s0 : List UInt8) : F91 g91_5 (s0, ()) = (if (s0 == []) = true then some ((0, false, ()), ()) else if decide ((↑s0.length : Int) > 15) = true then some ((0, false, ()), ()) else if decide ((↑s0.length : Int) > 1) = true then if 0 < (↑s0.length : Int) then if ((↑(s0.getD 0 (0 : UInt8)).toNat : Int) == 48) = true then some ((0, false, ()), ()) else (g91_5 ((s0, 0, 0, ()), ())).bind fun y => Sum.elim (fun y => some ((y.1.1, y.1.2.1, ()), ())) (fun z => some ((z.1.1, true, ()), ())) y else none else (g91_5 ((s0, 0, 0, ()), ())).bind fun y => Sum.elim (fun y => some ((y.1.1, y.1.2.1, ()), ())) (fun z => some ((z.1.1, true, ()), ())) y : Option rs91.den) := by kernel_rfl
theorem F53_eq (F91 : TF91) (typ0 : List UInt8) : F53 F91 (typ0, ()) = (if decide ((↑typ0.length : Int) < 2) = true then some ((0, false, ()), ()) else if 0 < (↑typ0.length : Int) then if (!(↑(typ0.getD 0 (0 : UInt8)).toNat : Int) == 117) = true then if 0 < (↑typ0.length : Int) then if (!(↑(typ0.getD 0 (0 : UInt8)).toNat : Int) == 105) = true then some ((0, false, ()), ()) else if 1 ≤ (↑typ0.length : Int) then if (↑typ0.length : Int) ≤ (↑typ0.length : Int) then (F91 (List.drop 1 typ0, ())).bind fun y => if y.1.2.1 = true then if decide (y.1.1 ≤ 64) = true then if decide (y.1.1 > 0) = true then some ((y.1.1, true, ()), ()) else if 0 < (↑typ0.length : Int) then some ((y.1.1, (↑(typ0.getD 0 (0 : UInt8)).toNat : Int) == 117, ()), ()) else none else some ((y.1.1, false, ()), ()) else some ((y.1.1, false, ()), ()) else none else none else none else if 1 ≤ (↑typ0.length : Int) then if (↑typ0.length : Int) ≤ (↑typ0.length : Int) then (F91 (List.drop 1 typ0, ())).bind fun y => if y.1.2.1 = true then if decide (y.1.1 ≤ 64) = true then if decide (y.1.1 > 0) = true then some ((y.1.1, true, ()), ()) else if 0 < (↑typ0.length : Int) then some ((y.1.1, (↑(typ0.getD 0 (0 : UInt8)).toNat : Int) == 117, ()), ()) else none else some ((y.1.1, false, ()), ()) else some ((y.1.1, false, ()), ()) else none else none else none : Option rs53.den) := by kernel_rfl
theorem F15_eq (F53 : TF53) (typ0 : List UInt8) : F15 F53 (typ0, ()) = (if (typ0 == [(102 : UInt8), (51 : UInt8), (50 : UInt8)]) = true then some ((4, 0, ()), ()) else if (typ0 == [(102 : UInt8), (54 : UInt8), (52 : UInt8)]) = true then if (typ0 == [(102 : UInt8), (54 : UInt8), (52 : UInt8)]) = true then some ((8, 0, ()), ()) else (F53 (typ0, ())).bind fun y => if (!y.1.2.1) = true then some ((0, 12, ()), ()) else some ((IntKind.i64.wrap ((IntKind.i64.wrap (y.1.1 + 7)).tdiv 8), 0, ()), ()) else if (typ0 == [(112 : UInt8), (116 : UInt8), (114 : UInt8)]) = true then some ((8, 0, ()), ()) else (F53 (typ0, ())).bind fun y => if (!y.1.2.1) = true then some ((0, 12, ()), ()) else some ((IntKind.i64.wrap ((IntKind.i64.wrap (y.1.1 + 7)).tdiv 8), 0, ()), ()) : Option rs15.den) := by kernel_rfl
theorem F109_eq (F15 : TF15) (g109_5 : z3A.den → Option (denX z6y)) (typ0 : List UInt8) : F109 F15 g109_5 (typ0, ()) = ((F15 (typ0, ())).bind fun y => if (!y.1.2.1 == 0) = true then some ((0, y.1.2.1, ()), ()) else (g109_5 ((y.1.1, 1, ()), ())).bind fun y => some ((y.1.1, 0, ()), ()) : Option z6G.den) := by kernel_rfl
theorem F110_eq (F106 : z2M) (m0_c0 : List XR) (m0_c1 : Int) (a1_0 : Int) (a1_1 : Int) (n2 : Int) (align3 : Int) (write4 : Bool) : F110 F106 ((m0_c0, m0_c1, ()), (a1_0, a1_1), n2, align3, write4, ()) = (if decide (n2 ≤ 0) = true then some ((-1, ()), ()) else if decide (a1_0 < 0) = true then some ((14, ()), ()) else (F106 ((m0_c0, m0_c1, ()), (a1_0, a1_1), ())).bind fun y => if (!y.1.1) = true then some ((14, ()), ()) else if 0 ≤ a1_0 then if a1_0 < (↑m0_c0.length : Int) then if decide (a1_1 < 0) = true then some ((14, ()), ()) else if decide (a1_1 > (↑(List.length (m0_c0.getD a1_0.toNat ((0, 0, false, false), [])).2) : Int)) = true then some ((14, ()), ()) else if decide (n2 > IntKind.i64.wrap ((↑(List.length (m0_c0.getD a1_0.toNat ((0, 0, false, false), [])).2) : Int) - a1_1)) = true then some ((14, ()), ()) else if (!(m0_c0.getD a1_0.toNat ((0, 0, false, false), [])).1.2.2.2) = true then some ((15, ()), ()) else if decide (align3 > 0) = true then if decide (align3 > (m0_c0.getD a1_0.toNat ((0, 0, false, false), [])).1.2.1) = true then some ((16, ()), ()) else if align3 = 0 then none else if (!a1_1.tmod align3 == 0) = true then some ((16, ()), ()) else if write4 = true then if (m0_c0.getD a1_0.toNat ((0, 0, false, false), [])).1.2.2.1 = true then some ((17, ()), ()) else some ((-1, ()), ()) else some ((-1, ()), ()) else if write4 = true then if (m0_c0.getD a1_0.toNat ((0, 0, false, false), [])).1.2.2.1 = true then some ((17, ()), ()) else some ((-1, ()), ()) else some ((-1, ()), ()) else none else none : Option z2L.den) := by kernel_rfl
theorem F36_eq (n0 : Int) : F36 (n0, ()) = (if decide (n0 ≥ 64) = true then some ((18446744073709551615, ()), ()) else if n0 < 0 then none else some ((IntKind.u64.wrap (IntKind.u64.wrap (1 * 2 ^ min n0.toNat 64) - 1), ()), ()) : Option rs36.den) := by kernel_rfl
theorem F37_eq (F53 : TF53) (typ0 : List UInt8) : F37 F53 (typ0, ()) = (if (typ0 == [(102 : UInt8), (51 : UInt8), (50 : UInt8)]) = true then some ((32, ()), ()) else if (typ0 == [(102 : UInt8), (54 : UInt8), (52 : UInt8)]) = true then some ((64, ()), ()) else if (typ0 == [(112 : UInt8), (116 : UInt8), (114 : UInt8)]) = true then some ((64, ()), ()) else (F53 (typ0, ())).bind fun y => some ((y.1.1, ()), ()) : Option rs37.den) := by kernel_rfl
theorem S111_4_eq (l1 : List (Int × (Int × ((Int × Int) × Int)))) (zero5 : Bool) (whole6 : Bool) (i7 : Int) (b0_0 : Int) (b0_1 : Int) (b0_2 : Int) (b0_3 : Int) : S111_4 ((l1, (), zero5, whole6, i7, ()), ((b0_0, b0_1, b0_2, b0_3, ()), ())) = (if decide (i7 < (↑l1.length : Int)) = true then if zero5 = true then if 0 ≤ i7 then if i7 < (↑l1.length : Int) then if ((l1.getD i7.toNat z5).1 == 1) = true then if 0 ≤ i7 then if i7 < (↑l1.length : Int) then if whole6 = true then if 0 ≤ i7 then if i7 < (↑l1.length : Int) then if ((l1.getD i7.toNat z5).1 == 2) = true then if 0 ≤ i7 then if i7 < (↑l1.length : Int) then if ((l1.getD i7.toNat z5).2.2.2 == i7) = true then if 0 ≤ i7 then if i7 < (↑l1.length : Int) then if 0 < (↑l1.length : Int) then some (Sum.inl ((l1, (), (l1.getD i7.toNat z5).2.1 == 0, (l1.getD i7.toNat z5).2.2.1.1 == (l1.getD 0 (0, 0, (0, 0), 0)).2.2.1.1 && ((l1.getD i7.toNat z5).2.2.1.2 == (l1.getD 0 (0, 0, (0, 0), 0)).2.2.1.2 && true), IntKind.i64.wrap (i7 + 1), ()), (b0_0, b0_1, b0_2, b0_3, ()), ())) else none else none else none else some (Sum.inl ((l1, (), (l1.getD i7.toNat z5).2.1 == 0, false, IntKind.i64.wrap (i7 + 1), ()), (b0_0, b0_1, b0_2, b0_3, ()), ())) else none else none else some (Sum.inl ((l1, (), (l1.getD i7.toNat z5).2.1 == 0, false, IntKind.i64.wrap (i7 + 1), ()), (b0_0, b0_1, b0_2, b0_3, ()), ())) else none else none else some (Sum.inl ((l1, (), (l1.getD i7.toNat z5).2.1 == 0, false, IntKind.i64.wrap (i7 + 1), ()), (b0_0, b0_1, b0_2, b0_3, ()), ())) else none else none else if whole6 = true then if 0 ≤ i7 then if i7 < (↑l1.length : Int) then if ((l1.getD i7.toNat z5).1 == 2) = true then if 0 ≤ i7 then if i7 < (↑l1.length : Int) then if ((l1.getD i7.toNat z5).2.2.2 == i7) = true then if 0 ≤ i7 then if i7 < (↑l1.length : Int) then if 0 < (↑l1.length : Int) then some (Sum.inl ((l1, (), false, (l1.getD i7.toNat z5).2.2.1.1 == (l1.getD 0 (0, 0, (0, 0), 0)).2.2.1.1 && ((l1.getD i7.toNat z5).2.2.1.2 == (l1.getD 0 (0, 0, (0, 0), 0)).2.2.1.2 && true), IntKind.i64.wrap (i7 + 1), ()), (b0_0, b0_1, b0_2, b0_3, ()), ())) else none else none else none else some (Sum.inl ((l1, (), false, false, IntKind.i64.wrap (i7 + 1), ()), (b0_0, b0_1, b0_2, b0_3, ()), ())) else none else none else some (Sum.inl ((l1, (), false, false, IntKind.i64.wrap (i7 + 1), ()), (b0_0, b0_1, b0_2, b0_3, ()), ())) else none else none else some (Sum.inl ((l1, (), false, false, IntKind.i64.wrap (i7 + 1), ()), (b0_0, b0_1, b0_2, b0_3, ()), ())) else none else none else if whole6 = true then if 0 ≤ i7 then if i7 < (↑l1.length : Int) then if ((l1.getD i7.toNat z5).1 == 2) = true then if 0 ≤ i7 then if i7 < (↑l1.length : Int) then if ((l1.getD i7.toNat z5).2.2.2 == i7) = true then if 0 ≤ i7 then if i7 < (↑l1.length : Int) then if 0 < (↑l1.length : Int) then some (Sum.inl ((l1, (), false, (l1.getD i7.toNat z5).2.2.1.1 == (l1.getD 0 (0, 0, (0, 0), 0)).2.2.1.1 && ((l1.getD i7.toNat z5).2.2.1.2 == (l1.getD 0 (0, 0, (0, 0), 0)).2.2.1.2 && true), IntKind.i64.wrap (i7 + 1), ()), (b0_0, b0_1, b0_2, b0_3, ()), ())) else none else none else none else some (Sum.inl ((l1, (), false, false, IntKind.i64.wrap (i7 + 1), ()), (b0_0, b0_1, b0_2, b0_3, ()), ())) else none else none else some (Sum.inl ((l1, (), false, false, IntKind.i64.wrap (i7 + 1), ()), (b0_0, b0_1, b0_2, b0_3, ()), ())) else none else none else some (Sum.inl ((l1, (), false, false, IntKind.i64.wrap (i7 + 1), ()), (b0_0, b0_1, b0_2, b0_3, ()), ())) else some (Sum.inr ((l1, (), zero5, whole6, ()), (b0_0, b0_1, b0_2, b0_3, ()), ())) : Option (z3h.den ⊕ denX z5X)) := by kernel_rfl
theorem S111_15_eq (F103 : z2Z) (typ0 : List UInt8) (l1 : List (Int × (Int × ((Int × Int) × Int)))) (bits8 : Int) (i9 : Int) (b0_0 : Int) (b0_1 : Int) (b0_2 : Int) (b0_3 : Int) : S111_15 F103 ((typ0, l1, (), bits8, i9, ()), ((b0_0, b0_1, b0_2, b0_3, ()), ())) = (if decide (i9 < (↑l1.length : Int)) = true then if 0 ≤ i9 then if i9 < (↑l1.length : Int) then if (!(l1.getD i9.toNat z5).1 == 1) = true then (F103 ()).bind fun y => some (Sum.inr (Sum.inl (((), ()), (0, 0, y.1.1.1, y.1.1.2, ()), ()))) else if 0 ≤ i9 then if i9 < (↑l1.length : Int) then if IntKind.i64.wrap (8 * i9) < 0 then none else some (Sum.inl ((typ0, l1, (), bitop BinOp.or IntKind.u64 bits8 (IntKind.u64.wrap (IntKind.u64.wrap (l1.getD i9.toNat z5).2.1 * 2 ^ min (IntKind.i64.wrap (8 * i9)).toNat 64)), IntKind.i64.wrap (i9 + 1), ()), (b0_0, b0_1, b0_2, b0_3, ()), ())) else none else none else none else none else some (Sum.inr (Sum.inr ((typ0, (), bits8, ()), (b0_0, b0_1, b0_2, b0_3, ()), ()))) : Option (z2i.den ⊕ denX z3v)) := by kernel_rfl
theorem F111_eq (F36 : TF36) (F37 : TF37) (F103 : z2Z) (g111_4 : z3h.den → Option (denX z5X)) (g111_15 : z2i.den → Option (denX z3v)) (typ0 : List UInt8) (l1 : List (Int × (Int × ((Int × Int) × Int)))) : F111 F36 F37 F103 g111_4 g111_15 (typ0, l1, ()) = (if (typ0 == [(112 : UInt8), (116 : UInt8), (114 : UInt8)]) = true then (g111_4 ((l1, (), true, true, 0, ()), (0, 0, 0, 0, ()), ())).bind fun y => if y.1.2.2.2.1 = true then if 0 < (↑(List.length y.1.1) : Int) then some (((2, 0, (List.getD y.1.1 0 (0, 0, (0, 0), 0)).2.2.1.1, (List.getD y.1.1 0 (0, 0, (0, 0), 0)).2.2.1.2), ()), ()) else none else if y.1.2.2.1 = true then (F103 ()).bind fun y => some (((2, 0, y.1.1.1, y.1.1.2), ()), ()) else (F103 ()).bind fun y => some (((0, 0, y.1.1.1, y.1.1.2), ()), ()) else (g111_15 ((typ0, l1, (), 0, 0, ()), (0, 0, 0, 0, ()), ())).bind fun y => Sum.elim (fun y => some (((y.2.1.1, y.2.1.2.1, y.2.1.2.2.1, y.2.1.2.2.2.1), ()), ())) (fun z => (F37 (z.1.1, ())).bind fun y => (F36 (y.1.1, ())).bind fun y => (F103 ()).bind fun y_1 => some (((1, bitop BinOp.and IntKind.u64 z.1.2.2.1 y.1.1, y_1.1.1.1, y_1.1.1.2), ()), ())) y : Option rs111.den) := by kernel_rfl
theorem F75_eq (F15 : TF15) (F103 : z2Z) (F109 : TF109) (F110 : z3K) (F111 : TF111) (m0_c0 : List XR) (m0_c1 : Int) (typ1 : List UInt8) (a2_0 : Int) (a2_1 : Int) : F75 F15 F103 F109 F110 F111 ((m0_c0, m0_c1, ()), typ1, (a2_0, a2_1), ()) = ((F15 (typ1, ())).bind fun y => if (!y.1.2.1 == 0) = true then (F103 ()).bind fun y => some (((0, 0, y.1.1.1, y.1.1.2), 13, ()), ()) else (F109 (typ1, ())).bind fun y_1 => (F110 ((m0_c0, m0_c1, ()), (a2_0, a2_1), y.1.1, y_1.1.1, false, ())).bind fun y_2 => if (!y_2.1.1 == -1) = true then (F103 ()).bind fun y => some (((0, 0, y.1.1.1, y.1.1.2), y_2.1.1, ()), ()) else if (y.1.1 == 0) = true then (F103 ()).bind fun y => some (((1, 0, y.1.1.1, y.1.1.2), -1, ()), ()) else if 0 ≤ a2_0 then if a2_0 < (↑m0_c0.length : Int) then if 0 ≤ a2_1 then if a2_1 ≤ IntKind.i64.wrap (a2_1 + y.1.1) then if IntKind.i64.wrap (a2_1 + y.1.1) ≤ (↑(List.length (m0_c0.getD a2_0.toNat ((0, 0, false, false), [])).2) : Int) then (F111 (typ1, List.drop a2_1.toNat (List.take (IntKind.i64.wrap (a2_1 + y.1.1)).toNat (m0_c0.getD a2_0.toNat ((0, 0, false, false), [])).2), ())).bind fun y => some (((y.1.1.1, y.1.1.2.1, y.1.1.2.2.1, y.1.1.2.2.2), -1, ()), ()) else none else none else none else none else none : Option rs75.den) := by kernel_rfl
theorem S112_4_eq (F36 : TF36) (F37 : TF37) (typ0 : List UInt8) (n5 : Int) (i8 : Int) (b0_0 : Int) (b0_1 : Int) (b0_2 : Int) (b0_3 : Int) (rw1 : List (Int × (Int × ((Int × Int) × Int)))) : S112_4 F36 F37 ((typ0, (), n5, (), i8, ()), ((b0_0, b0_1, b0_2, b0_3, ()), rw1, ())) = (if decide (i8 < n5) = true then if (typ0 == [(112 : UInt8), (116 : UInt8), (114 : UInt8)]) = true then if (b0_0 == 2) = true then if decide (b0_2 ≥ 0) = true then if 0 ≤ i8 then if i8 < (↑rw1.length : Int) then some (Sum.inl ((typ0, (), n5, (), IntKind.i64.wrap (i8 + 1), ()), (b0_0, b0_1, b0_2, b0_3, ()), rw1.set i8.toNat (2, 0, (b0_2, b0_3), i8), ())) else none else none else if (typ0 == [(112 : UInt8), (116 : UInt8), (114 : UInt8)]) = true then if (b0_0 == 2) = true then if 0 ≤ i8 then if i8 < (↑rw1.length : Int) then some (Sum.inl ((typ0, (), n5, (), IntKind.i64.wrap (i8 + 1), ()), (b0_0, b0_1, b0_2, b0_3, ()), rw1.set i8.toNat (1, 0, (0, 0), 0), ())) else none else none else if (b0_0 == 1) = true then if (b0_1 == 0) = true then if 0 ≤ i8 then if i8 < (↑rw1.length : Int) then some (Sum.inl ((typ0, (), n5, (), IntKind.i64.wrap (i8 + 1), ()), (b0_0, b0_1, b0_2, b0_3, ()), rw1.set i8.toNat (1, 0, (0, 0), 0), ())) else none else none else if (!typ0 == [(112 : UInt8), (116 : UInt8), (114 : UInt8)]) = true then if (b0_0 == 1) = true then (F37 (typ0, ())).bind fun y => (F36 (y.1.1, ())).bind fun y => if (bitop BinOp.andNot IntKind.u64 b0_1 y.1.1 == 0) = true then if IntKind.i64.wrap (8 * i8) < 0 then none else if 0 ≤ i8 then if i8 < (↑rw1.length : Int) then some (Sum.inl ((typ0, (), n5, (), IntKind.i64.wrap (i8 + 1), ()), (b0_0, b0_1, b0_2, b0_3, ()), rw1.set i8.toNat (1, IntKind.u8.wrap (b0_1.fdiv (2 ^ min (IntKind.i64.wrap (8 * i8)).toNat 64)), (0, 0), 0), ())) else none else none else some (Sum.inl ((typ0, (), n5, (), IntKind.i64.wrap (i8 + 1), ()), (b0_0, b0_1, b0_2, b0_3, ()), rw1, ())) else some (Sum.inl ((typ0, (), n5, (), IntKind.i64.wrap (i8 + 1), ()), (b0_0, b0_1, b0_2, b0_3, ()), rw1, ())) else some (Sum.inl ((typ0, (), n5, (), IntKind.i64.wrap (i8 + 1), ()), (b0_0, b0_1, b0_2, b0_3, ()), rw1, ())) else if (!typ0 == [(112 : UInt8), (116 : UInt8), (114 : UInt8)]) = true then if (b0_0 == 1) = true then (F37 (typ0, ())).bind fun y => (F36 (y.1.1, ())).bind fun y => if (bitop BinOp.andNot IntKind.u64 b0_1 y.1.1 == 0) = true then if IntKind.i64.wrap (8 * i8) < 0 then none else if 0 ≤ i8 then if i8 < (↑rw1.length : Int) then some (Sum.inl ((typ0, (), n5, (), IntKind.i64.wrap (i8 + 1), ()), (b0_0, b0_1, b0_2, b0_3, ()), rw1.set i8.toNat (1, IntKind.u8.wrap (b0_1.fdiv (2 ^ min (IntKind.i64.wrap (8 * i8)).toNat 64)), (0, 0), 0), ())) else none else none else some (Sum.inl ((typ0, (), n5, (), IntKind.i64.wrap (i8 + 1), ()), (b0_0, b0_1, b0_2, b0_3, ()), rw1, ())) else some (Sum.inl ((typ0, (), n5, (), IntKind.i64.wrap (i8 + 1), ()), (b0_0, b0_1, b0_2, b0_3, ()), rw1, ())) else some (Sum.inl ((typ0, (), n5, (), IntKind.i64.wrap (i8 + 1), ()), (b0_0, b0_1, b0_2, b0_3, ()), rw1, ())) else if (!typ0 == [(112 : UInt8), (116 : UInt8), (114 : UInt8)]) = true then if (b0_0 == 1) = true then (F37 (typ0, ())).bind fun y => (F36 (y.1.1, ())).bind fun y => if (bitop BinOp.andNot IntKind.u64 b0_1 y.1.1 == 0) = true then if IntKind.i64.wrap (8 * i8) < 0 then none else if 0 ≤ i8 then if i8 < (↑rw1.length : Int) then some (Sum.inl ((typ0, (), n5, (), IntKind.i64.wrap (i8 + 1), ()), (b0_0, b0_1, b0_2, b0_3, ()), rw1.set i8.toNat (1, IntKind.u8.wrap (b0_1.fdiv (2 ^ min (IntKind.i64.wrap (8 * i8)).toNat 64)), (0, 0), 0), ())) else none else none else some (Sum.inl ((typ0, (), n5, (), IntKind.i64.wrap (i8 + 1), ()), (b0_0, b0_1, b0_2, b0_3, ()), rw1, ())) else some (Sum.inl ((typ0, (), n5, (), IntKind.i64.wrap (i8 + 1), ()), (b0_0, b0_1, b0_2, b0_3, ()), rw1, ())) else some (Sum.inl ((typ0, (), n5, (), IntKind.i64.wrap (i8 + 1), ()), (b0_0, b0_1, b0_2, b0_3, ()), rw1, ())) else if (typ0 == [(112 : UInt8), (116 : UInt8), (114 : UInt8)]) = true then if (b0_0 == 2) = true then if 0 ≤ i8 then if i8 < (↑rw1.length : Int) then some (Sum.inl ((typ0, (), n5, (), IntKind.i64.wrap (i8 + 1), ()), (b0_0, b0_1, b0_2, b0_3, ()), rw1.set i8.toNat (1, 0, (0, 0), 0), ())) else none else none else if (b0_0 == 1) = true then if (b0_1 == 0) = true then if 0 ≤ i8 then if i8 < (↑rw1.length : Int) then some (Sum.inl ((typ0, (), n5, (), IntKind.i64.wrap (i8 + 1), ()), (b0_0, b0_1, b0_2, b0_3, ()), rw1.set i8.toNat (1, 0, (0, 0), 0), ())) else none else none else if (!typ0 == [(112 : UInt8), (116 : UInt8), (114 : UInt8)]) = true then if (b0_0 == 1) = true then (F37 (typ0, ())).bind fun y => (F36 (y.1.1, ())).bind fun y => if (bitop BinOp.andNot IntKind.u64 b0_1 y.1.1 == 0) = true then if IntKind.i64.wrap (8 * i8) < 0 then none else if 0 ≤ i8 then if i8 < (↑rw1.length : Int) then some (Sum.inl ((typ0, (), n5, (), IntKind.i64.wrap (i8 + 1), ()), (b0_0, b0_1, b0_2, b0_3, ()), rw1.set i8.toNat (1, IntKind.u8.wrap (b0_1.fdiv (2 ^ min (IntKind.i64.wrap (8 * i8)).toNat 64)), (0, 0), 0), ())) else none else none else some (Sum.inl ((typ0, (), n5, (), IntKind.i64.wrap (i8 + 1), ()), (b0_0, b0_1, b0_2, b0_3, ()), rw1, ())) else some (Sum.inl ((typ0, (), n5, (), IntKind.i64.wrap (i8 + 1), ()), (b0_0, b0_1, b0_2, b0_3, ()), rw1, ())) else some (Sum.inl ((typ0, (), n5, (), IntKind.i64.wrap (i8 + 1), ()), (b0_0, b0_1, b0_2, b0_3, ()), rw1, ())) else if (!typ0 == [(112 : UInt8), (116 : UInt8), (114 : UInt8)]) = true then if (b0_0 == 1) = true then (F37 (typ0, ())).bind fun y => (F36 (y.1.1, ())).bind fun y => if (bitop BinOp.andNot IntKind.u64 b0_1 y.1.1 == 0) = true then if IntKind.i64.wrap (8 * i8) < 0 then none else if 0 ≤ i8 then if i8 < (↑rw1.length : Int) then some (Sum.inl ((typ0, (), n5, (), IntKind.i64.wrap (i8 + 1), ()), (b0_0, b0_1, b0_2, b0_3, ()), rw1.set i8.toNat (1, IntKind.u8.wrap (b0_1.fdiv (2 ^ min (IntKind.i64.wrap (8 * i8)).toNat 64)), (0, 0), 0), ())) else none else none else some (Sum.inl ((typ0, (), n5, (), IntKind.i64.wrap (i8 + 1), ()), (b0_0, b0_1, b0_2, b0_3, ()), rw1, ())) else some (Sum.inl ((typ0, (), n5, (), IntKind.i64.wrap (i8 + 1), ()), (b0_0, b0_1, b0_2, b0_3, ()), rw1, ())) else some (Sum.inl ((typ0, (), n5, (), IntKind.i64.wrap (i8 + 1), ()), (b0_0, b0_1, b0_2, b0_3, ()), rw1, ())) else if (!typ0 == [(112 : UInt8), (116 : UInt8), (114 : UInt8)]) = true then if (b0_0 == 1) = true then (F37 (typ0, ())).bind fun y => (F36 (y.1.1, ())).bind fun y => if (bitop BinOp.andNot IntKind.u64 b0_1 y.1.1 == 0) = true then if IntKind.i64.wrap (8 * i8) < 0 then none else if 0 ≤ i8 then if i8 < (↑rw1.length : Int) then some (Sum.inl ((typ0, (), n5, (), IntKind.i64.wrap (i8 + 1), ()), (b0_0, b0_1, b0_2, b0_3, ()), rw1.set i8.toNat (1, IntKind.u8.wrap (b0_1.fdiv (2 ^ min (IntKind.i64.wrap (8 * i8)).toNat 64)), (0, 0), 0), ())) else none else none else some (Sum.inl ((typ0, (), n5, (), IntKind.i64.wrap (i8 + 1), ()), (b0_0, b0_1, b0_2, b0_3, ()), rw1, ())) else some (Sum.inl ((typ0, (), n5, (), IntKind.i64.wrap (i8 + 1), ()), (b0_0, b0_1, b0_2, b0_3, ()), rw1, ())) else some (Sum.inl ((typ0, (), n5, (), IntKind.i64.wrap (i8 + 1), ()), (b0_0, b0_1, b0_2, b0_3, ()), rw1, ())) else if (typ0 == [(112 : UInt8), (116 : UInt8), (114 : UInt8)]) = true then if (b0_0 == 2) = true then if 0 ≤ i8 then if i8 < (↑rw1.length : Int) then some (Sum.inl ((typ0, (), n5, (), IntKind.i64.wrap (i8 + 1), ()), (b0_0, b0_1, b0_2, b0_3, ()), rw1.set i8.toNat (1, 0, (0, 0), 0), ())) else none else none else if (b0_0 == 1) = true then if (b0_1 == 0) = true then if 0 ≤ i8 then if i8 < (↑rw1.length : Int) then some (Sum.inl ((typ0, (), n5, (), IntKind.i64.wrap (i8 + 1), ()), (b0_0, b0_1, b0_2, b0_3, ()), rw1.set i8.toNat (1, 0, (0, 0), 0), ())) else none else none else if (!typ0 == [(112 : UInt8), (116 : UInt8), (114 : UInt8)]) = true then if (b0_0 == 1) = true then (F37 (typ0, ())).bind fun y => (F36 (y.1.1, ())).bind fun y => if (bitop BinOp.andNot IntKind.u64 b0_1 y.1.1 == 0) = true then if IntKind.i64.wrap (8 * i8) < 0 then none else if 0 ≤ i8 then if i8 < (↑rw1.length : Int) then some (Sum.inl ((typ0, (), n5, (), IntKind.i64.wrap (i8 + 1), ()), (b0_0, b0_1, b0_2, b0_3, ()), rw1.set i8.toNat (1, IntKind.u8.wrap (b0_1.fdiv (2 ^ min (IntKind.i64.wrap (8 * i8)).toNat 64)), (0, 0), 0), ())) else none else none else some (Sum.inl ((typ0, (), n5, (), IntKind.i64.wrap (i8 + 1), ()), (b0_0, b0_1, b0_2, b0_3, ()), rw1, ())) else some (Sum.inl ((typ0, (), n5, (), IntKind.i64.wrap (i8 + 1), ()), (b0_0, b0_1, b0_2, b0_3, ()), rw1, ())) else some (Sum.inl ((typ0, (), n5, (), IntKind.i64.wrap (i8 + 1), ()), (b0_0, b0_1, b0_2, b0_3, ()), rw1, ())) else if (!typ0 == [(112 : UInt8), (116 : UInt8), (114 : UInt8)]) = true then if (b0_0 == 1) = true then (F37 (typ0, ())).bind fun y => (F36 (y.1.1, ())).bind fun y => if (bitop BinOp.andNot IntKind.u64 b0_1 y.1.1 == 0) = true then if IntKind.i64.wrap (8 * i8) < 0 then none else if 0 ≤ i8 then if i8 < (↑rw1.length : Int) then some (Sum.inl ((typ0, (), n5, (), IntKind.i64.wrap (i8 + 1), ()), (b0_0, b0_1, b0_2, b0_3, ()), rw1.set i8.toNat (1, IntKind.u8.wrap (b0_1.fdiv (2 ^ min (IntKind.i64.wrap (8 * i8)).toNat 64)), (0, 0), 0), ())) else none else none else some (Sum.inl ((typ0, (), n5, (), IntKind.i64.wrap (i8 + 1), ()), (b0_0, b0_1, b0_2, b0_3, ()), rw1, ())) else some (Sum.inl ((typ0, (), n5, (), IntKind.i64.wrap (i8 + 1), ()), (b0_0, b0_1, b0_2, b0_3, ()), rw1, ())) else some (Sum.inl ((typ0, (), n5, (), IntKind.i64.wrap (i8 + 1), ()), (b0_0, b0_1, b0_2, b0_3, ()), rw1, ())) else if (!typ0 == [(112 : UInt8), (116 : UInt8), (114 : UInt8)]) = true then if (b0_0 == 1) = true then (F37 (typ0, ())).bind fun y => (F36 (y.1.1, ())).bind fun y => if (bitop BinOp.andNot IntKind.u64 b0_1 y.1.1 == 0) = true then if IntKind.i64.wrap (8 * i8) < 0 then none else if 0 ≤ i8 then if i8 < (↑rw1.length : Int) then some (Sum.inl ((typ0, (), n5, (), IntKind.i64.wrap (i8 + 1), ()), (b0_0, b0_1, b0_2, b0_3, ()), rw1.set i8.toNat (1, IntKind.u8.wrap (b0_1.fdiv (2 ^ min (IntKind.i64.wrap (8 * i8)).toNat 64)), (0, 0), 0), ())) else none else none else some (Sum.inl ((typ0, (), n5, (), IntKind.i64.wrap (i8 + 1), ()), (b0_0, b0_1, b0_2, b0_3, ()), rw1, ())) else some (Sum.inl ((typ0, (), n5, (), IntKind.i64.wrap (i8 + 1), ()), (b0_0, b0_1, b0_2, b0_3, ()), rw1, ())) else some (Sum.inl ((typ0, (), n5, (), IntKind.i64.wrap (i8 + 1), ()), (b0_0, b0_1, b0_2, b0_3, ()), rw1, ())) else some (Sum.inr (((), ()), rw1, ())) : Option (z3g.den ⊕ denX z5W)) := by kernel_rfl
theorem F112_eq (F15 : TF15) (g112_4 : z3g.den → Option (denX z5W)) (typ0 : List UInt8) (w1_0 : Int) (w1_1 : Int) (w1_2 : Int) (w1_3 : Int) : F112 F15 g112_4 (typ0, (w1_0, w1_1, w1_2, w1_3), ()) = ((F15 (typ0, ())).bind fun y => if 0 ≤ y.1.1 then if y.1.1 ≤ y.1.1 then if y.1.1 ≤ ((4294967296 : Nat) : Int) then (g112_4 ((typ0, (), y.1.1, (), 0, ()), (w1_0, w1_1, w1_2, w1_3, ()), List.replicate (Int.toNat y.1.1) (0, 0, (0, 0), 0), ())).bind fun y => some (((), ()), y.2.1, ()) else none else none else none : Option z6F.den) := by kernel_rfl
theorem F76_eq (F15 : TF15) (F106 : z2M) (F109 : TF109) (F110 : z3K) (F112 : TF112) (typ1 : List UInt8) (a2_0 : Int) (a2_1 : Int) (w3_0 : Int) (w3_1 : Int) (w3_2 : Int) (w3_3 : Int) (b0_1 : Int) (nr1 : List XR) : F76 F15 F106 F109 F110 F112 (((), typ1, (a2_0, a2_1), (w3_0, w3_1, w3_2, w3_3), ()), (((), b0_1, ()), nr1, ())) = (((F15 (typ1, ())).bind fun y => if (!y.1.2.1 == 0) = true then some (((), 13, ()), ((), b0_1, ()), nr1, ()) else (F109 (typ1, ())).bind fun y_1 => (F110 ((nr1, b0_1, ()), (a2_0, a2_1), y.1.1, y_1.1.1, true, ())).bind fun y_2 => if (!y_2.1.1 == -1) = true then some (((), y_2.1.1, ()), ((), b0_1, ()), nr1, ()) else if (w3_0 == 2) = true then (F106 ((nr1, b0_1, ()), (w3_2, w3_3), ())).bind fun y_3 => if (!y_3.1.1) = true then if decide (y.1.1 > 0) = true then (F112 (typ1, (0, 0, 0, 0), ())).bind fun y => if 0 ≤ a2_0 then if a2_0 < (↑nr1.length : Int) then if 0 ≤ a2_1 then if a2_1 ≤ (↑(nr1.getD a2_0.toNat ((0, 0, false, false), [])).2.length : Int) then if (↑(nr1.getD a2_0.toNat ((0, 0, false, false), [])).2.length : Int) ≤ (↑(nr1.getD a2_0.toNat ((0, 0, false, false), [])).2.length : Int) then some (((), -1, ()), ((), b0_1, ()), nr1.set a2_0.toNat ((nr1.getD a2_0.toNat ((0, 0, false, false), [])).1, List.take (0 + a2_1.toNat) (nr1.getD a2_0.toNat ((0, 0, false, false), [])).2 ++ List.take ((nr1.getD a2_0.toNat ((0, 0, false, false), [])).2.length - a2_1.toNat) y.2.1 ++ List.drop (0 + a2_1.toNat + min (List.length y.2.1) ((nr1.getD a2_0.toNat ((0, 0, false, false), [])).2.length - a2_1.toNat)) (nr1.getD a2_0.toNat ((0, 0, false, false), [])).2), ()) else none else none else none else none else none else some (((), -1, ()), ((), b0_1, ()), nr1, ()) else if decide (y.1.1 > 0) = true then (F112 (typ1, (w3_0, w3_1, w3_2, w3_3), ())).bind fun y => if 0 ≤ a2_0 then if a2_0 < (↑nr1.length : Int) then if 0 ≤ a2_1 then if a2_1 ≤ (↑(nr1.getD a2_0.toNat ((0, 0, false, false), [])).2.length : Int) then if (↑(nr1.getD a2_0.toNat ((0, 0, false, false), [])).2.length : Int) ≤ (↑(nr1.getD a2_0.toNat ((0, 0, false, false), [])).2.length : Int) then some (((), -1, ()), ((), b0_1, ()), nr1.set a2_0.toNat ((nr1.getD a2_0.toNat ((0, 0, false, false), [])).1, List.take (0 + a2_1.toNat) (nr1.getD a2_0.toNat ((0, 0, false, false), [])).2 ++ List.take ((nr1.getD a2_0.toNat ((0, 0, false, false), [])).2.length - a2_1.toNat) y.2.1 ++ List.drop (0 + a2_1.toNat + min (List.length y.2.1) ((nr1.getD a2_0.toNat ((0, 0, false, false), [])).2.length - a2_1.toNat)) (nr1.getD a2_0.toNat ((0, 0, false, false), [])).2), ()) else none else none else none else none else none else some (((), -1, ()), ((), b0_1, ()), nr1, ()) else if decide (y.1.1 > 0) = true then (F112 (typ1, (w3_0, w3_1, w3_2, w3_3), ())).bind fun y => if 0 ≤ a2_0 then if a2_0 < (↑nr1.length : Int) then if 0 ≤ a2_1 then if a2_1 ≤ (↑(nr1.getD a2_0.toNat ((0, 0, false, false), [])).2.length : Int) then if (↑(nr1.getD a2_0.toNat ((0, 0, false, false), [])).2.length : Int) ≤ (↑(nr1.getD a2_0.toNat ((0, 0, false, false), [])).2.length : Int) then some (((), -1, ()), ((), b0_1, ()), nr1.set a2_0.toNat ((nr1.getD a2_0.toNat ((0, 0, false, false), [])).1, List.take (0 + a2_1.toNat) (nr1.getD a2_0.toNat ((0, 0, false, false), [])).2 ++ List.take ((nr1.getD a2_0.toNat ((0, 0, false, false), [])).2.length - a2_1.toNat) y.2.1 ++ List.drop (0 + a2_1.toNat + min (List.length y.2.1) ((nr1.getD a2_0.toNat ((0, 0, false, false), [])).2.length - a2_1.toNat)) (nr1.getD a2_0.toNat ((0, 0, false, false), [])).2), ()) else none else none else none else none else none else some (((), -1, ()), ((), b0_1, ()), nr1, ())).bind fun z => some z : Option rs76.den) := by kernel_rfl
theorem F77_eq (F110 : z3K) (to1_0 : Int) (to1_1 : Int) (from2_0 : Int) (from2_1 : Int) (n3 : Int) (b0_1 : Int) (nr1 : List XR) : F77 F110 (((), (to1_0, to1_1), (from2_0, from2_1), n3, ()), (((), b0_1, ()), nr1, ())) = (((F110 ((nr1, b0_1, ()), (from2_0, from2_1), n3, 0, false, ())).bind fun y => if (!y.1.1 == -1) = true then some (((), y.1.1, ()), ((), b0_1, ()), nr1, ()) else (F110 ((nr1, b0_1, ()), (to1_0, to1_1), n3, 0, true, ())).bind fun y => if (!y.1.1 == -1) = true then some (((), y.1.1, ()), ((), b0_1, ()), nr1, ()) else if decide (n3 > 0) = true then if 0 ≤ from2_0 then if from2_0 < (↑nr1.length : Int) then if 0 ≤ from2_1 then if from2_1 ≤ IntKind.i64.wrap (from2_1 + n3) then if IntKind.i64.wrap (from2_1 + n3) ≤ (↑(nr1.getD from2_0.toNat ((0, 0, false, false), [])).2.length : Int) then if (List.take ((IntKind.i64.wrap (from2_1 + n3)).toNat - from2_1.toNat) (List.drop (0 + from2_1.toNat) (nr1.getD from2_0.toNat ((0, 0, false, false), [])).2)).length ≤ 4294967296 then if 0 ≤ to1_0 then if to1_0 < (↑nr1.length : Int) then if 0 ≤ to1_1 then if to1_1 ≤ (↑(nr1.getD to1_0.toNat ((0, 0, false, false), [])).2.length : Int) then if (↑(nr1.getD to1_0.toNat ((0, 0, false, false), [])).2.length : Int) ≤ (↑(nr1.getD to1_0.toNat ((0, 0, false, false), [])).2.length : Int) then some (((), -1, ()), ((), b0_1, ()), nr1.set to1_0.toNat ((nr1.getD to1_0.toNat ((0, 0, false, false), [])).1, List.take (0 + to1_1.toNat) (nr1.getD to1_0.toNat ((0, 0, false, false), [])).2 ++ List.take ((nr1.getD to1_0.toNat ((0, 0, false, false), [])).2.length - to1_1.toNat) (List.take ((IntKind.i64.wrap (from2_1 + n3)).toNat - from2_1.toNat) (List.drop (0 + from2_1.toNat) (nr1.getD from2_0.toNat ((0, 0, false, false), [])).2)) ++ List.drop (0 + to1_1.toNat + min (List.take ((IntKind.i64.wrap (from2_1 + n3)).toNat - from2_1.toNat) (List.drop (0 + from2_1.toNat) (nr1.getD from2_0.toNat ((0, 0, false, false), [])).2)).length ((nr1.getD to1_0.toNat ((0, 0, false, false), [])).2.length - to1_1.toNat)) (nr1.getD to1_0.toNat ((0, 0, false, false), [])).2), ()) else none else none else none else none else none else none else none else none else none else none else none else some (((), -1, ()), ((), b0_1, ()), nr1, ())).bind fun z => some z : Option rs77.den) := by kernel_rfl
theorem S78_5_eq (n2 : Int) (i8 : Int) (b0_1 : Int) (b1_0 : Int) (b1_1 : Int) (nr2 : List XR) : S78_5 (((), n2, (), i8, ()), (((), b0_1, ()), (b1_0, b1_1, ()), nr2, ())) = (if decide (i8 < n2) = true then if 0 ≤ b1_0 then if b1_0 < (↑nr2.length : Int) then if 0 ≤ IntKind.i64.wrap (b1_1 + i8) then if IntKind.i64.wrap (b1_1 + i8) < (↑(nr2.getD b1_0.toNat ((0, 0, false, false), [])).2.length : Int) then some (Sum.inl (((), n2, (), IntKind.i64.wrap (i8 + 1), ()), ((), b0_1, ()), (b1_0, b1_1, ()), nr2.set b1_0.toNat ((nr2.getD b1_0.toNat ((0, 0, false, false), [])).1, (nr2.getD b1_0.toNat ((0, 0, false, false), [])).2.set (0 + (IntKind.i64.wrap (b1_1 + i8)).toNat) (0, 0, (0, 0), 0)), ())) else none else none else none else none else some (Sum.inr (((), ()), ((), b0_1, ()), nr2, ())) : Option (z4H.den ⊕ denX w78_5)) := by kernel_rfl
theorem F78_eq (F110 : z3K) (g78_5 : z4H.den → Option (denX w78_5)) (a1_0 : Int) (a1_1 : Int) (n2 : Int) (b0_1 : Int) (nr1 : List XR) : F78 F110 g78_5 (((), (a1_0, a1_1), n2, ()), (((), b0_1, ()), nr1, ())) = (((F110 ((nr1, b0_1, ()), (a1_0, a1_1), n2, 0, true, ())).bind fun y => if (!y.1.1 == -1) = true then some (((), y.1.1, ()), ((), b0_1, ()), nr1, ()) else (g78_5 (((), n2, (), 0, ()), ((), b0_1, ()), (a1_0, a1_1, ()), nr1, ())).bind fun y => some (((), -1, ()), ((), y.2.1.2.1, ()), y.2.2.1, ())).bind fun z => some z : Option rs78.den) := by kernel_rfl
theorem S79_8_eq (m0_c0 : List XR) (m0_c1 : Int) (n2 : Int) (i10 : Int) (b0_0 : Int) (b0_1 : Int) (rw1 : List Int) : S79_8 (((m0_c0, m0_c1, ()), n2, (), (), i10, ()), ((b0_0, b0_1, ()), rw1, ())) = (if decide (i10 < n2) = true then if 0 ≤ b0_0 then if b0_0 < (↑m0_c0.length : Int) then if 0 ≤ IntKind.i64.wrap (b0_1 + i10) then if IntKind.i64.wrap (b0_1 + i10) < (↑(List.length (m0_c0.getD b0_0.toNat ((0, 0, false, false), [])).2) : Int) then if (!(List.getD (m0_c0.getD b0_0.toNat ((0, 0, false, false), [])).2 (IntKind.i64.wrap (b0_1 + i10)).toNat (0, 0, (0, 0), 0)).1 == 1) = true then some (Sum.inr (Sum.inl (((), 13, ()), ()))) else if rw1.length + [(List.getD (m0_c0.getD b0_0.toNat ((0, 0, false, false), [])).2 (IntKind.i64.wrap (b0_1 + i10)).toNat z5).2.1].length ≤ 4294967296 then some (Sum.inl (((m0_c0, m0_c1, ()), n2, (), (), IntKind.i64.wrap (i10 + 1), ()), (b0_0, b0_1, ()), rw1 ++ [(List.getD (m0_c0.getD b0_0.toNat ((0, 0, false, false), [])).2 (IntKind.i64.wrap (b0_1 + i10)).toNat z5).2.1], ())) else none else none else none else none else none else some (Sum.inr (Sum.inr (((), ()), rw1, ()))) : Option (z4G.den ⊕ denX w79_8)) := by kernel_rfl
theorem F79_eq (F110 : z3K) (g79_8 : z4G.den → Option (denX w79_8)) (m0_c0 : List XR) (m0_c1 : Int) (a1_0 : Int) (a1_1 : Int) (n2 : Int) : F79 F110 g79_8 ((m0_c0, m0_c1, ()), (a1_0, a1_1), n2, ()) = (if decide (n2 > 65536) = true then some (((), 14, ()), [], ()) else (F110 ((m0_c0, m0_c1, ()), (a1_0, a1_1), n2, 0, false, ())).bind fun y => if (!y.1.1 == -1) = true then some (((), y.1.1, ()), [], ()) else (g79_8 (((m0_c0, m0_c1, ()), n2, (), (), 0, ()), (a1_0, a1_1, ()), [], ())).bind fun y => Sum.elim (fun y => some (((), y.1.2.1, ()), [], ())) (fun z => some (((), -1, ()), z.2.1, ())) y : Option rs79.den) := by kernel_rfl
theorem S80_10_eq (offset2 : Int) (b3 : List Int) (undefined4 : List Bool) (l12j : Nat) (l12o : Nat) (l12l : Nat) (i13 : Int) (b0_1 : Int) (nr1 : List XR) : S80_10 (((), offset2, b3, undefined4, (l12j, l12o, l12l), i13, ()), (((), b0_1, ()), nr1, ())) = (if decide (i13 < (↑b3.length : Int)) = true then if 0 ≤ i13 then if i13 < (↑b3.length : Int) then if decide ((↑undefined4.length : Int) > 0) = true then if 0 ≤ i13 then if i13 < (↑undefined4.length : Int) then if undefined4.getD i13.toNat false = true then if 0 ≤ IntKind.i64.wrap (offset2 + i13) then if IntKind.i64.wrap (offset2 + i13) < (↑l12l : Int) then some (Sum.inl (((), offset2, b3, undefined4, (l12j, l12o, l12l), IntKind.i64.wrap (i13 + 1), ()), ((), b0_1, ()), nr1.set l12j ((nr1.getD l12j ((0, 0, false, false), [])).1, (nr1.getD l12j ((0, 0, false, false), [])).2.set (l12o + (IntKind.i64.wrap (offset2 + i13)).toNat) (0, 0, (0, 0), 0)), ())) else none else none else if 0 ≤ IntKind.i64.wrap (offset2 + i13) then if IntKind.i64.wrap (offset2 + i13) < (↑l12l : Int) then some (Sum.inl (((), offset2, b3, undefined4, (l12j, l12o, l12l), IntKind.i64.wrap (i13 + 1), ()), ((), b0_1, ()), nr1.set l12j ((nr1.getD l12j ((0, 0, false, false), [])).1, (nr1.getD l12j ((0, 0, false, false), [])).2.set (l12o + (IntKind.i64.wrap (offset2 + i13)).toNat) (1, b3.getD i13.toNat 0, (0, 0), 0)), ())) else none else none else none else none else if 0 ≤ IntKind.i64.wrap (offset2 + i13) then if IntKind.i64.wrap (offset2 + i13) < (↑l12l : Int) then some (Sum.inl (((), offset2, b3, undefined4, (l12j, l12o, l12l), IntKind.i64.wrap (i13 + 1), ()), ((), b0_1, ()), nr1.set l12j ((nr1.getD l12j ((0, 0, false, false), [])).1, (nr1.getD l12j ((0, 0, false, false), [])).2.set (l12o + (IntKind.i64.wrap (offset2 + i13)).toNat) (1, b3.getD i13.toNat 0, (0, 0), 0)), ())) else none else none else none else none else some (Sum.inr (((), ()), ((), b0_1, ()), nr1, ())) : Option (z3e.den ⊕ denX z5T)) := by kernel_rfl
theorem F80_eq (F108 : z7I) (g80_10 : z3e.den → Option (denX z5T)) (n1 : Int) (offset2 : Int) (b3 : List Int) (undefined4 : List Bool) (b0_1 : Int) (nr1 : List XR) : F80 F108 g80_10 (((), n1, offset2, b3, undefined4, ()), (((), b0_1, ()), nr1, ())) = (((F108 ((nr1, b0_1, ()), n1, ())).bind fun y => if (!y.1.1 == 0) = true then some (((), y.1.1, ()), ((), b0_1, ()), nr1, ()) else if 0 ≤ n1 then if n1 < (↑nr1.length : Int) then if decide (offset2 < 0) = true then some (((), 26, ()), ((), b0_1, ()), nr1, ()) else if decide (offset2 > (↑(nr1.getD n1.toNat ((0, 0, false, false), [])).2.length : Int)) = true then some (((), 26, ()), ((), b0_1, ()), nr1, ()) else if decide ((↑b3.length : Int) > IntKind.i64.wrap ((↑(nr1.getD n1.toNat ((0, 0, false, false), [])).2.length : Int) - offset2)) = true then some (((), 26, ()), ((), b0_1, ()), nr1, ()) else if decide ((↑undefined4.length : Int) > 0) = true then if (!(↑undefined4.length : Int) == (↑b3.length : Int)) = true then some (((), 2, ()), ((), b0_1, ()), nr1, ()) else (g80_10 (((), offset2, b3, undefined4, (n1.toNat, 0, (nr1.getD n1.toNat ((0, 0, false, false), [])).2.length), 0, ()), ((), b0_1, ()), nr1, ())).bind fun y => some (((), 0, ()), ((), y.2.1.2.1, ()), y.2.2.1, ()) else (g80_10 (((), offset2, b3, undefined4, (n1.toNat, 0, (nr1.getD n1.toNat ((0, 0, false, false), [])).2.length), 0, ()), ((), b0_1, ()), nr1, ())).bind fun y => some (((), 0, ()), ((), y.2.1.2.1, ()), y.2.2.1, ()) else none else none).bind fun z => some z : Option rs80.den) := by kernel_rfl
theorem F81_eq (F106 : z2M) (F108 : z7I) (F112 : TF112) (n1 : Int) (offset2 : Int) (to3_0 : Int) (to3_1 : Int) (b0_1 : Int) (nr1 : List XR) : F81 F106 F108 F112 (((), n1, offset2, (to3_0, to3_1), ()), (((), b0_1, ()), nr1, ())) = (((F108 ((nr1, b0_1, ()), n1, ())).bind fun y => if (!y.1.1 == 0) = true then some (((), y.1.1, ()), ((), b0_1, ()), nr1, ()) else if 0 ≤ n1 then if n1 < (↑nr1.length : Int) then if decide (offset2 < 0) = true then some (((), 26, ()), ((), b0_1, ()), nr1, ()) else if decide (offset2 > (↑(nr1.getD n1.toNat ((0, 0, false, false), [])).2.length : Int)) = true then some (((), 26, ()), ((), b0_1, ()), nr1, ()) else if decide (8 > IntKind.i64.wrap ((↑(nr1.getD n1.toNat ((0, 0, false, false), [])).2.length : Int) - offset2)) = true then some (((), 26, ()), ((), b0_1, ()), nr1, ()) else (F106 ((nr1, b0_1, ()), (to3_0, to3_1), ())).bind fun y => if (!y.1.1) = true then some (((), 1, ()), ((), b0_1, ()), nr1, ()) else if 0 ≤ offset2 then if offset2 ≤ (↑(nr1.getD n1.toNat ((0, 0, false, false), [])).2.length : Int) then if (↑(nr1.getD n1.toNat ((0, 0, false, false), [])).2.length : Int) ≤ (↑(nr1.getD n1.toNat ((0, 0, false, false), [])).2.length : Int) then (F112 ([(112 : UInt8), (116 : UInt8), (114 : UInt8)], (2, 0, to3_0, to3_1), ())).bind fun y => some (((), 0, ()), ((), b0_1, ()), nr1.set n1.toNat ((nr1.getD n1.toNat ((0, 0, false, false), [])).1, List.take (0 + offset2.toNat) (nr1.getD n1.toNat ((0, 0, false, false), [])).2 ++ List.take ((nr1.getD n1.toNat ((0, 0, false, false), [])).2.length - offset2.toNat) y.2.1 ++ List.drop (0 + offset2.toNat + min (List.length y.2.1) ((nr1.getD n1.toNat ((0, 0, false, false), [])).2.length - offset2.toNat)) (nr1.getD n1.toNat ((0, 0, false, false), [])).2), ()) else none else none else none else none else none).bind fun z => some z : Option rs81.den) := by kernel_rfl
theorem F113_eq (m0_c0 : List XR) (m0_c1 : Int) (a1_0 : Int) (a1_1 : Int) : F113 ((m0_c0, m0_c1, ()), (a1_0, a1_1), ()) = (if decide (a1_0 < 0) = true then some ((true, ()), ()) else if decide (a1_1 ≥ 0) = true then if 0 ≤ a1_0 then if a1_0 < (↑m0_c0.length : Int) then some ((decide (a1_1 ≤ (↑(List.length (m0_c0.getD a1_0.toNat ((0, 0, false, false), [])).2) : Int)), ()), ()) else none else none else some ((false, ()), ()) : Option rs113.den) := by kernel_rfl
theorem F82_eq (F106 : z2M) (F113 : TF113) (m0_c0 : List XR) (m0_c1 : Int) (a1_0 : Int) (a1_1 : Int) (b2_0 : Int) (b2_1 : Int) : F82 F106 F113 ((m0_c0, m0_c1, ()), (a1_0, a1_1), (b2_0, b2_1), ()) = ((F106 ((m0_c0, m0_c1, ()), (a1_0, a1_1), ())).bind fun y => if (!y.1.1) = true then some ((false, 14, ()), ()) else (F106 ((m0_c0, m0_c1, ()), (b2_0, b2_1), ())).bind fun y => if (!y.1.1) = true then some ((false, 14, ()), ()) else if decide (a1_0 ≥ 0) = true then if decide (b2_0 ≥ 0) = true then some ((false, 14, ()), ()) else (F113 ((m0_c0, m0_c1, ()), (a1_0, a1_1), ())).bind fun y => if (!y.1.1) = true then some ((false, 14, ()), ()) else (F113 ((m0_c0, m0_c1, ()), (b2_0, b2_1), ())).bind fun y => if (!y.1.1) = true then some ((false, 14, ()), ()) else some ((a1_0 == b2_0 && (a1_1 == b2_1 && true), -1, ()), ()) else (F113 ((m0_c0, m0_c1, ()), (a1_0, a1_1), ())).bind fun y => if (!y.1.1) = true then some ((false, 14, ()), ()) else (F113 ((m0_c0, m0_c1, ()), (b2_0, b2_1), ())).bind fun y => if (!y.1.1) = true then some ((false, 14, ()), ()) else some ((a1_0 == b2_0 && (a1_1 == b2_1 && true), -1, ()), ()) : Option rs82.den) := by kernel_rfl
theorem F31_eq (F71 : TF71) (F72 : TF72) (F73 : TF73) (F74 : TF74) (F75 : TF75) (F76 : TF76) (F77 : TF77) (F78 : TF78) (F79 : TF79) (F80 : TF80) (F81 : TF81) (F82 : TF82) (F83 : TF83) (a1_0 : Int) (a1_1 : List UInt8) (a1_2_0 : Int) (a1_2_1 : Int) (a1_3_0 : Int) (a1_3_1 : Int) (a1_4 : Int) (a1_5 : Int) (a1_6 : Bool) (a1_7 : Int) (a1_8_0 : Int) (a1_8_1 : Int) (a1_8_2 : Int) (a1_8_3 : Int) (a1_9 : List Int) (a1_10 : List Bool) (b0_1 : Int) (nr1 : List XR) : F31 F71 F72 F73 F74 F75 F76 F77 F78 F79 F80 F81 F82 F83 (((), (a1_0, a1_1, (a1_2_0, a1_2_1), (a1_3_0, a1_3_1), a1_4, a1_5, a1_6, a1_7, (a1_8_0, a1_8_1, a1_8_2, a1_8_3), a1_9, a1_10), ()), (((), b0_1, ()), nr1, ())) = ((if (a1_0 == 0) = true then (F71 (((), a1_4, IntKind.i64.wrap a1_7, a1_5, a1_6, ()), ((), b0_1, ()), nr1, ())).bind fun z => some (((), ((z.1.2.1.1, z.1.2.1.2), (0, 0, 0, 0), false, z.1.2.2.1, []), ()), ((), z.2.1.2.1, ()), z.2.2.1, ()) else if (a1_0 == 1) = true then (F72 (((), a1_7, a1_5, ()), ((), b0_1, ()), nr1, ())).bind fun z => some (((), ((z.1.2.1.1, z.1.2.1.2), (0, 0, 0, 0), false, z.1.2.2.1, []), ()), ((), z.2.1.2.1, ()), z.2.2.1, ()) else if (a1_0 == 2) = true then (F73 (((), (a1_2_0, a1_2_1), ()), ((), b0_1, ()), nr1, ())).bind fun z => some (((), ((0, 0), (0, 0, 0, 0), false, z.1.2.1, []), ()), ((), z.2.1.2.1, ()), z.2.2.1, ()) else if (a1_0 == 3) = true then (F74 (((), a1_4, ()), ((), b0_1, ()), nr1, ())).bind fun z => some (((), ((0, 0), (0, 0, 0, 0), false, z.1.2.1, []), ()), ((), z.2.1.2.1, ()), z.2.2.1, ()) else if (a1_0 == 4) = true then (F75 ((nr1, b0_1, ()), a1_1, (a1_2_0, a1_2_1), ())).bind fun y => some (((), ((0, 0), (y.1.1.1, y.1.1.2.1, y.1.1.2.2.1, y.1.1.2.2.2), false, y.1.2.1, []), ()), ((), b0_1, ()), nr1, ()) else if (a1_0 == 5) = true then (F76 (((), a1_1, (a1_2_0, a1_2_1), (a1_8_0, a1_8_1, a1_8_2, a1_8_3), ()), ((), b0_1, ()), nr1, ())).bind fun z => some (((), ((0, 0), (0, 0, 0, 0), false, z.1.2.1, []), ()), ((), z.2.1.2.1, ()), z.2.2.1, ()) else if (a1_0 == 6) = true then (F77 (((), (a1_2_0, a1_2_1), (a1_3_0, a1_3_1), a1_4, ()), ((), b0_1, ()), nr1, ())).bind fun z => some (((), ((0, 0), (0, 0, 0, 0), false, z.1.2.1, []), ()), ((), z.2.1.2.1, ()), z.2.2.1, ()) else if (a1_0 == 7) = true then (F78 (((), (a1_2_0, a1_2_1), a1_4, ()), ((), b0_1, ()), nr1, ())).bind fun z => some (((), ((0, 0), (0, 0, 0, 0), false, z.1.2.1, []), ()), ((), z.2.1.2.1, ()), z.2.2.1, ()) else if (a1_0 == 8) = true then (F79 ((nr1, b0_1, ()), (a1_2_0, a1_2_1), a1_4, ())).bind fun y => some (((), ((0, 0), (0, 0, 0, 0), false, y.1.2.1, y.2.1), ()), ((), b0_1, ()), nr1, ()) else if (a1_0 == 9) = true then (F80 (((), a1_2_0, a1_2_1, a1_9, a1_10, ()), ((), b0_1, ()), nr1, ())).bind fun z => some (((), ((0, 0), (0, 0, 0, 0), false, z.1.2.1, []), ()), ((), z.2.1.2.1, ()), z.2.2.1, ()) else if (a1_0 == 10) = true then (F81 (((), a1_2_0, a1_2_1, (a1_3_0, a1_3_1), ()), ((), b0_1, ()), nr1, ())).bind fun z => some (((), ((0, 0), (0, 0, 0, 0), false, z.1.2.1, []), ()), ((), z.2.1.2.1, ()), z.2.2.1, ()) else if (a1_0 == 11) = true then (F82 ((nr1, b0_1, ()), (a1_2_0, a1_2_1), (a1_3_0, a1_3_1), ())).bind fun y => some (((), ((0, 0), (0, 0, 0, 0), y.1.1, y.1.2.1, []), ()), ((), b0_1, ()), nr1, ()) else if (a1_0 == 12) = true then (F83 ((nr1, b0_1, ()), (a1_2_0, a1_2_1), a1_4, ())).bind fun y => some (((), ((y.1.1.1, y.1.1.2), (0, 0, 0, 0), false, y.1.2.1, []), ()), ((), b0_1, ()), nr1, ()) else some (((), ((0, 0), (0, 0, 0, 0), false, 0, []), ()), ((), b0_1, ()), nr1, ())).bind fun z => some z : Option rs31.den) := by kernel_rfl
theorem S32_4_eq (a0 : List Int) (b1 : List Int) (i5 : Int) : S32_4 ((a0, b1, i5, ()), ()) = (if decide (i5 < (↑a0.length : Int)) = true then if 0 ≤ i5 then if i5 < (↑a0.length : Int) then if 0 ≤ i5 then if i5 < (↑b1.length : Int) then if (!a0.getD i5.toNat 0 == b1.getD i5.toNat 0) = true then some (Sum.inr (Sum.inl ((false, ()), ()))) else some (Sum.inl ((a0, b1, IntKind.i64.wrap (i5 + 1), ()), ())) else none else none else none else none else some (Sum.inr (Sum.inr ((), ()))) : Option (z4M.den ⊕ denX w32_4)) := by kernel_rfl
theorem F32_eq (g32_4 : z4M.den → Option (denX w32_4)) (a0 : List Int) (b1 : List Int) : F32 g32_4 (a0, b1, ()) = (if (!(↑a0.length : Int) == (↑b1.length : Int)) = true then some ((false, ()), ()) else (g32_4 ((a0, b1, 0, ()), ())).bind fun y => Sum.elim (fun y => some ((y.1.1, ()), ())) (fun z => some ((true, ()), ())) y : Option rs32.den) := by kernel_rfl
theorem S33_3_eq (kind1 : Int) (t11 : List XB) (t12 : Int) (t13 : Int) (rw0 : List Int) : S33_3 ((kind1, (), t11, t12, t13, ()), (rw0, ())) = (if decide (t13 < t12) = true then if 0 ≤ t13 then if t13 < (↑t11.length : Int) then if ((t11.getD t13.toNat ((0, 0, false, false), [])).1.1 == kind1) = true then if (!(t11.getD t13.toNat ((0, 0, false, false), [])).1.2.2.2) = true then if rw0.length + [t13].length ≤ 4294967296 then some (Sum.inl ((kind1, (), t11, t12, IntKind.i64.wrap (t13 + 1), ()), rw0 ++ [t13], ())) else none else some (Sum.inl ((kind1, (), t11, t12, IntKind.i64.wrap (t13 + 1), ()), rw0, ())) else some (Sum.inl ((kind1, (), t11, t12, IntKind.i64.wrap (t13 + 1), ()), rw0, ())) else none else none else some (Sum.inr (((), ()), rw0, ())) : Option (z4L.den ⊕ denX w33_3)) := by kernel_rfl
theorem F33_eq (g33_3 : z4L.den → Option (denX w33_3)) (m0_c0 : List XB) (m0_c1 : Int) (kind1 : Int) : F33 g33_3 ((m0_c0, m0_c1, ()), kind1, ()) = ((g33_3 ((kind1, (), m0_c0, (↑m0_c0.length : Int), 0, ()), [], ())).bind fun y => some (((), ()), y.2.1, ()) : Option rs33.den) := by kernel_rfl
theorem S34_3_eq (m0_c0 : List XR) (m0_c1 : Int) (kind1 : Int) (i6 : Int) (rw0 : List Int) : S34_3 (((m0_c0, m0_c1, ()), kind1, (), i6, ()), (rw0, ())) = (if decide (i6 < (↑m0_c0.length : Int)) = true then if 0 ≤ i6 then if i6 < (↑m0_c0.length : Int) then if (m0_c0.getD i6.toNat ((0, 0, false, false), [])).1.2.2.2 = true then if 0 ≤ i6 then if i6 < (↑m0_c0.length : Int) then if ((m0_c0.getD i6.toNat ((0, 0, false, false), [])).1.1 == kind1) = true then if rw0.length + [i6].length ≤ 4294967296 then some (Sum.inl (((m0_c0, m0_c1, ()), kind1, (), IntKind.i64.wrap (i6 + 1), ()), rw0 ++ [i6], ())) else none else some (Sum.inl (((m0_c0, m0_c1, ()), kind1, (), IntKind.i64.wrap (i6 + 1), ()), rw0, ())) else none else none else some (Sum.inl (((m0_c0, m0_c1, ()), kind1, (), IntKind.i64.wrap (i6 + 1), ()), rw0, ())) else none else none else some (Sum.inr (((), ()), rw0, ())) : Option (z4K.den ⊕ denX w34_3)) := by kernel_rfl
theorem F34_eq (g34_3 : z4K.den → Option (denX w34_3)) (m0_c0 : List XR) (m0_c1 : Int) (kind1 : Int) : F34 g34_3 ((m0_c0, m0_c1, ()), kind1, ()) = ((g34_3 (((m0_c0, m0_c1, ()), kind1, (), 0, ()), [], ())).bind fun y => some (((), ()), y.2.1, ()) : Option rs34.den) := by kernel_rfl
theorem S10_15_eq (F32 : TF32) (F33 : TF33) (F34 : TF34) (from1 : Int) (kind13 : Int) (b0_1 : Int) (b1_1 : Int) (nr2 : List XB) (nr3 : List XR) : S10_15 F32 F33 F34 ((from1, (), (), kind13, ()), (((), b0_1, ()), ((), b1_1, ()), nr2, nr3, ())) = (if decide (kind13 ≤ 3) = true then if (from1 == 0) = true then (F33 ((nr2, b0_1, ()), kind13, ())).bind fun y => (F34 ((nr3, b1_1, ()), kind13, ())).bind fun y_1 => (F32 (y.2.1, y_1.2.1, ())).bind fun y => if (!y.1.1) = true then some (Sum.inr (Sum.inl ((false, ()), ()))) else some (Sum.inl ((from1, (), (), IntKind.i64.wrap (kind13 + 1), ()), ((), b0_1, ()), ((), b1_1, ()), nr2, nr3, ())) else some (Sum.inl ((from1, (), (), IntKind.i64.wrap (kind13 + 1), ()), ((), b0_1, ()), ((), b1_1, ()), nr2, nr3, ())) else some (Sum.inr (Sum.inr ((from1, (), (), ()), ((), b0_1, ()), ((), b1_1, ()), nr2, nr3, ()))) : Option (z2K.den ⊕ denX z4A)) := by kernel_rfl
theorem F10_eq (F12 : TF12) (F22 : TF22) (F30 : TF30) (F35 : TF35) (g10_5 : z4g.den → Option (denX w10_5)) (g10_15 : z2K.den → Option (denX z4A)) (l0 : List (Int × (List UInt8 × ((Int × Int) × ((Int × Int) × (Int × (Int × (Bool × (Int × ((Int × (Int × (Int × Int))) × (List Int × List Bool))))))))))) (from1 : Int) (to2 : Int) : F10 F12 F22 F30 F35 g10_5 g10_15 (l0, from1, to2, ()) = ((F12 ()).bind fun y => (F30 ()).bind fun y_1 => (g10_5 ((from1, to2, (), (), l0, (↑l0.length : Int), 0, ()), ((), y.2.1.2.1, ()), ((), y_1.2.1.2.1, ()), y.2.2.1, y_1.2.2.1, ())).bind fun y => Sum.elim (fun y => some ((y.1.1, ()), ())) (fun z => (g10_15 ((z.1.1, (), (), -1, ()), ((), z.2.1.2.1, ()), ((), z.2.2.1.2.1, ()), z.2.2.2.1, z.2.2.2.2.1, ())).bind fun y => Sum.elim (fun y => some ((y.1.1, ()), ())) (fun z => if (!z.1.1 == 0) = true then some ((true, ()), ()) else (F22 ((z.2.2.2.1, z.2.1.2.1, ()), ())).bind fun y => (F35 ((z.2.2.2.2.1, z.2.2.1.2.1, ()), ())).bind fun y_2 => some ((y.1.1 == y_2.1.1, ()), ())) y) y : Option rs10.den) := by kernel_rfl
theorem F5_eq (F8 : TF8) (F9 : TF9) (F10 : TF10) (l0 : List (Int × (List UInt8 × ((Int × Int) × ((Int × Int) × (Int × (Int × (Bool × (Int × ((Int × (Int × (Int × Int))) × (List Int × List Bool))))))))))) : F5 F8 F9 F10 (l0, ()) = ((F8 (l0, ())).bind fun y => if (!y.1.1) = true then (F9 ()).bind fun y => some ((y.1.1, ()), ()) else (F10 (l0, 11, 12, ())).bind fun y => if y.1.1 = true then (F9 ()).bind fun y => some ((y.1.1, ()), ()) else some ((false, ()), ()) : Option rs5.den) := by kernel_rfl
end Go.Proofs.Rf
set_option linter.unusedVariables false
namespace Go.Proofs.Rf
open Go Go.RowKit
end Go.Proofs.Rf
set_option linter.unusedVariables false
namespace Go.Proofs.Rf
open Go Go.RowKit
abbrev Ac := Int × List UInt8 × (Int × Int) × (Int × Int) × Int × Int × Bool × Int × (Int × Int × Int × Int) × List Int × List Bool
abbrev dAc : Ac := (0, [], (0, 0), (0, 0), 0, 0, false, 0, (0, 0, 0, 0), [], [])
abbrev Cl := Int × Int × Int × Int
abbrev Kl := Int × Int × (Int × Int) × Int
abbrev Tl := Int × Int × Bool × Bool
abbrev Ans := (Int × Int) × (Int × Int × Int × Int) × Bool × Int × List Int
def capA (a : Ac) : Ac := (a.1, a.2.1, a.2.2.1, a.2.2.2.1, a.2.2.2.2.1, a.2.2.2.2.2.1, a.2.2.2.2.2.2.1, 1099511627776, a.2.2.2.2.2.2.2.2.1, a.2.2.2.2.2.2.2.2.2.1, a.2.2.2.2.2.2.2.2.2.2)
def kont10 (F13 : psh13.den → Option rs13.den) (F21 : SV.denL ps21 → Option rs21.den) (F31 : psh31.den → Option rs31.den) (from1 to2 : Int) (l : List Ac) (n i : Int) (u0 u1 : Int) (nr2 : List (Tl × List Cl)) (nr3 : List (Tl × List Kl)) (a : Ac) : Option (z4g.den ⊕ denX w10_5) :=
 (F31 (((), a, ()), ((), u1, ()), nr3, ())).bind fun z =>
  (F13 (((), a, ()), ((), u0, ()), nr2, ())).bind fun y =>
   if decide (a.1 ≥ from1) = true then
    if decide (a.1 ≤ to2) = true then
     (F21 (z.1.2.1, y.1.2.1, ())).bind fun b =>
      if (!b.1.1) = true then some (Sum.inr (Sum.inl ((false, ()), ())))
      else some (Sum.inl ((from1, to2, (), (), l, n, IntKind.i64.wrap (i + 1), ()), ((), y.2.1.2.1, ()), ((), z.2.1.2.1, ()), y.2.2.1, z.2.2.1, ()))
    else some (Sum.inl ((from1, to2, (), (), l, n, IntKind.i64.wrap (i + 1), ()), ((), y.2.1.2.1, ()), ((), z.2.1.2.1, ()), y.2.2.1, z.2.2.1, ()))
   else some (Sum.inl ((from1, to2, (), (), l, n, IntKind.i64.wrap (i + 1), ()), ((), y.2.1.2.1, ()), ((), z.2.1.2.1, ()), y.2.2.1, z.2.2.1, ()))
theorem S10_5_eq (F13 : psh13.den → Option rs13.den) (F21 : SV.denL ps21 → Option rs21.den) (F31 : psh31.den → Option rs31.den) (from1 to2 : Int) (l : List Ac) (n i : Int) (u0 u1 : Int) (nr2 : List (Tl × List Cl)) (nr3 : List (Tl × List Kl)) :
  S10_5 F13 F21 F31 ((from1, to2, (), (), l, n, i, ()), ((), u0, ()), ((), u1, ()), nr2, nr3, ()) = (
   if decide (i < n) = true then
    if 0 ≤ i then
     if i < (l.length : Int) then
      if ((l.getD i.toNat dAc).1 == 0) = true then
       if decide ((l.getD i.toNat dAc).2.2.2.2.2.2.2.1 > 1099511627776) = true then kont10 F13 F21 F31 from1 to2 l n i u0 u1 nr2 nr3 (capA (l.getD i.toNat dAc))
       else kont10 F13 F21 F31 from1 to2 l n i u0 u1 nr2 nr3 (l.getD i.toNat dAc)
      else kont10 F13 F21 F31 from1 to2 l n i u0 u1 nr2 nr3 (l.getD i.toNat dAc)
     else none
    else none
   else some (Sum.inr (Sum.inr ((from1, (), (), ()), ((), u0, ()), ((), u1, ()), nr2, nr3, ()))) : Option (z4g.den ⊕ denX w10_5)) := by kernel_rfl
end Go.Proofs.Rf
set_option linter.unusedVariables false
namespace Go.Proofs.Rf
open Go Go.RowKit
def sbO (A B C D : Int) : Operand → Operand
 | .const (.int k v) => if v = -2199023255552 then .const (.int k A) else if v = 2199023255552 then .const (.int k B) else if v = -1099511627776 then .const (.int k C) else if v = 1099511627776 then .const (.int k D) else .const (.int k v)
 | o => o
def sbP (A B C D : Int) (o : Oper) : Oper := { o with op := match o.op with
 | .binOp b t x y u => .binOp b t (sbO A B C D x) (sbO A B C D y) u
 | q => q }
def sbC (A B C D : Int) : Code → Code
 | .region i ops d => .region i (ops.toList.map (sbP A B C D)).toArray d
 | .seq a b => .seq (sbC A B C D a) (sbC A B C D b)
 | .cond c a b => .cond c (sbC A B C D a) (sbC A B C D b)
 | .block i c => .block i (sbC A B C D c)
 | .scope c => .scope (sbC A B C D c)
 | c => c
theorem F47_any (A B C D : Int) (F51 : TF51) (F65 : TF65) (m0_c0 : List ((Int × (Int × (Bool × Bool))) × List (Int × (Int × (Int × Int))))) (m0_c1 : Int) (a1_0 : Int) (a1_1 : Int) (n2 : Int) : runF tb (lookL [(51, mkCall ps51 rs51 F51), (65, mkCall ps65 rs65 F65)]) (upTo Tryz.f47.ntmps) (lookL []) (sbC A B C D (z1M Tryz.f47)) Tryz.f47.results.toList ps47 rs47 ((m0_c0, m0_c1, ()), (a1_0, a1_1), n2, ()) = (
(F65 ((m0_c0, m0_c1, ()), (a1_0, a1_1), ())).bind fun y =>
 if (!y.1.1) = true then (F51 ()).bind fun y => some (((y.1.1.1, y.1.1.2), 14, ()), ())
 else
  (F51 ()).bind fun y =>
   if (a1_0 == y.1.1.1 && (a1_1 == y.1.1.2 && true)) = true then
    if (!n2 == 0) = true then (F51 ()).bind fun y => some (((y.1.1.1, y.1.1.2), 14, ()), ())
    else
     if decide (n2 < A) = true then (F51 ()).bind fun y => some (((y.1.1.1, y.1.1.2), 14, ()), ())
     else
      if decide (n2 > B) = true then (F51 ()).bind fun y => some (((y.1.1.1, y.1.1.2), 14, ()), ())
      else
       (F65 ((m0_c0, m0_c1, ()), (a1_0, IntKind.i64.wrap (a1_1 + n2)), ())).bind fun y =>
        if (!y.1.1) = true then (F51 ()).bind fun y => some (((y.1.1.1, y.1.1.2), 14, ()), ())
        else some (((a1_0, IntKind.i64.wrap (a1_1 + n2)), -1, ()), ())
   else
    if decide (n2 < A) = true then (F51 ()).bind fun y => some (((y.1.1.1, y.1.1.2), 14, ()), ())
    else
     if decide (n2 > B) = true then (F51 ()).bind fun y => some (((y.1.1.1, y.1.1.2), 14, ()), ())
     else
      (F65 ((m0_c0, m0_c1, ()), (a1_0, IntKind.i64.wrap (a1_1 + n2)), ())).bind fun y =>
       if (!y.1.1) = true then (F51 ()).bind fun y => some (((y.1.1.1, y.1.1.2), 14, ()), ())
       else some (((a1_0, IntKind.i64.wrap (a1_1 + n2)), -1, ()), ()) : Option rs47.den) := by kernel_rfl
theorem sb47 : sbC (-2199023255552) 2199023255552 (-1099511627776) 1099511627776 (z1M Tryz.f47) = z1M Tryz.f47 := by kernel_rfl
theorem F47_eq (F51 : TF51) (F65 : TF65) (m0_c0 : List ((Int × (Int × (Bool × Bool))) × List (Int × (Int × (Int × Int))))) (m0_c1 : Int) (a1_0 : Int) (a1_1 : Int) (n2 : Int) : F47 F51 F65 ((m0_c0, m0_c1, ()), (a1_0, a1_1), n2, ()) = (
(F65 ((m0_c0, m0_c1, ()), (a1_0, a1_1), ())).bind fun y =>
 if (!y.1.1) = true then (F51 ()).bind fun y => some (((y.1.1.1, y.1.1.2), 14, ()), ())
 else
  (F51 ()).bind fun y =>
   if (a1_0 == y.1.1.1 && (a1_1 == y.1.1.2 && true)) = true then
    if (!n2 == 0) = true then (F51 ()).bind fun y => some (((y.1.1.1, y.1.1.2), 14, ()), ())
    else
     if decide (n2 < -2199023255552) = true then (F51 ()).bind fun y => some (((y.1.1.1, y.1.1.2), 14, ()), ())
     else
      if decide (n2 > 2199023255552) = true then (F51 ()).bind fun y => some (((y.1.1.1, y.1.1.2), 14, ()), ())
      else
       (F65 ((m0_c0, m0_c1, ()), (a1_0, IntKind.i64.wrap (a1_1 + n2)), ())).bind fun y =>
        if (!y.1.1) = true then (F51 ()).bind fun y => some (((y.1.1.1, y.1.1.2), 14, ()), ())
        else some (((a1_0, IntKind.i64.wrap (a1_1 + n2)), -1, ()), ())
   else
    if decide (n2 < -2199023255552) = true then (F51 ()).bind fun y => some (((y.1.1.1, y.1.1.2), 14, ()), ())
    else
     if decide (n2 > 2199023255552) = true then (F51 ()).bind fun y => some (((y.1.1.1, y.1.1.2), 14, ()), ())
     else
      (F65 ((m0_c0, m0_c1, ()), (a1_0, IntKind.i64.wrap (a1_1 + n2)), ())).bind fun y =>
       if (!y.1.1) = true then (F51 ()).bind fun y => some (((y.1.1.1, y.1.1.2), 14, ()), ())
       else some (((a1_0, IntKind.i64.wrap (a1_1 + n2)), -1, ()), ()) : Option rs47.den) := by
 have h := F47_any (-2199023255552) 2199023255552 (-1099511627776) 1099511627776 F51 F65 m0_c0 m0_c1 a1_0 a1_1 n2
 rw [sb47] at h
 exact h
theorem F83_any (A B C D : Int) (F103 : z2Z) (F106 : z2M) (m0_c0 : List ((Int × (Int × (Bool × Bool))) × List (Int × (Int × ((Int × Int) × Int))))) (m0_c1 : Int) (a1_0 : Int) (a1_1 : Int) (n2 : Int) : runF tb (lookL [(103, mkCall z2B z2u F103), (106, mkCall z2w z2j F106)]) (upTo Tryz.f83.ntmps) (lookL []) (sbC A B C D (z1M Tryz.f83)) Tryz.f83.results.toList ps83 rs83 ((m0_c0, m0_c1, ()), (a1_0, a1_1), n2, ()) = (
(F106 ((m0_c0, m0_c1, ()), (a1_0, a1_1), ())).bind fun y =>
 if (!y.1.1) = true then (F103 ()).bind fun y => some (((y.1.1.1, y.1.1.2), 14, ()), ())
 else
  if decide (a1_0 < 0) = true then
   if (!n2 == 0) = true then (F103 ()).bind fun y => some (((y.1.1.1, y.1.1.2), 14, ()), ())
   else
    if decide (n2 < A) = true then (F103 ()).bind fun y => some (((y.1.1.1, y.1.1.2), 14, ()), ())
    else
     if decide (n2 > B) = true then (F103 ()).bind fun y => some (((y.1.1.1, y.1.1.2), 14, ()), ())
     else
      if decide (IntKind.i64.wrap (a1_1 + n2) < C) = true then
       (F103 ()).bind fun y => some (((y.1.1.1, y.1.1.2), 14, ()), ())
      else
       if decide (IntKind.i64.wrap (a1_1 + n2) > D) = true then
        (F103 ()).bind fun y => some (((y.1.1.1, y.1.1.2), 14, ()), ())
       else some (((a1_0, IntKind.i64.wrap (a1_1 + n2)), -1, ()), ())
  else
   if decide (n2 < A) = true then (F103 ()).bind fun y => some (((y.1.1.1, y.1.1.2), 14, ()), ())
   else
    if decide (n2 > B) = true then (F103 ()).bind fun y => some (((y.1.1.1, y.1.1.2), 14, ()), ())
    else
     if decide (IntKind.i64.wrap (a1_1 + n2) < C) = true then
      (F103 ()).bind fun y => some (((y.1.1.1, y.1.1.2), 14, ()), ())
     else
      if decide (IntKind.i64.wrap (a1_1 + n2) > D) = true then
       (F103 ()).bind fun y => some (((y.1.1.1, y.1.1.2), 14, ()), ())
      else some (((a1_0, IntKind.i64.wrap (a1_1 + n2)), -1, ()), ()) : Option rs83.den) := by kernel_rfl
theorem sb83 : sbC (-2199023255552) 2199023255552 (-1099511627776) 1099511627776 (z1M Tryz.f83) = z1M Tryz.f83 := by kernel_rfl
theorem F83_eq (F103 : z2Z) (F106 : z2M) (m0_c0 : List ((Int × (Int × (Bool × Bool))) × List (Int × (Int × ((Int × Int) × Int))))) (m0_c1 : Int) (a1_0 : Int) (a1_1 : Int) (n2 : Int) : F83 F103 F106 ((m0_c0, m0_c1, ()), (a1_0, a1_1), n2, ()) = (
(F106 ((m0_c0, m0_c1, ()), (a1_0, a1_1), ())).bind fun y =>
 if (!y.1.1) = true then (F103 ()).bind fun y => some (((y.1.1.1, y.1.1.2), 14, ()), ())
 else
  if decide (a1_0 < 0) = true then
   if (!n2 == 0) = true then (F103 ()).bind fun y => some (((y.1.1.1, y.1.1.2), 14, ()), ())
   else
    if decide (n2 < -2199023255552) = true then (F103 ()).bind fun y => some (((y.1.1.1, y.1.1.2), 14, ()), ())
    else
     if decide (n2 > 2199023255552) = true then (F103 ()).bind fun y => some (((y.1.1.1, y.1.1.2), 14, ()), ())
     else
      if decide (IntKind.i64.wrap (a1_1 + n2) < -1099511627776) = true then
       (F103 ()).bind fun y => some (((y.1.1.1, y.1.1.2), 14, ()), ())
      else
       if decide (IntKind.i64.wrap (a1_1 + n2) > 1099511627776) = true then
        (F103 ()).bind fun y => some (((y.1.1.1, y.1.1.2), 14, ()), ())
       else some (((a1_0, IntKind.i64.wrap (a1_1 + n2)), -1, ()), ())
  else
   if decide (n2 < -2199023255552) = true then (F103 ()).bind fun y => some (((y.1.1.1, y.1.1.2), 14, ()), ())
   else
    if decide (n2 > 2199023255552) = true then (F103 ()).bind fun y => some (((y.1.1.1, y.1.1.2), 14, ()), ())
    else
     if decide (IntKind.i64.wrap (a1_1 + n2) < -1099511627776) = true then
      (F103 ()).bind fun y => some (((y.1.1.1, y.1.1.2), 14, ()), ())
     else
      if decide (IntKind.i64.wrap (a1_1 + n2) > 1099511627776) = true then
       (F103 ()).bind fun y => some (((y.1.1.1, y.1.1.2), 14, ()), ())
      else some (((a1_0, IntKind.i64.wrap (a1_1 + n2)), -1, ()), ()) : Option rs83.den) := by
 have h := F83_any (-2199023255552) 2199023255552 (-1099511627776) 1099511627776 F103 F106 m0_c0 m0_c1 a1_0 a1_1 n2
 rw [sb83] at h
 exact h
end Go.Proofs.Rf
namespace Go.Proofs
open Go.Shelf
def Tryz.laysC172_ren : Go.Shelf.Ren := ⟨fun | 172 => 99 | 244 => 123 | 245 => 124 | 247 => 127 | 279 => 128 | 280 => 129 | 281 => 130 | 282 => 131 | 287 => 132 | 316 => 133 | 171 => 135 | 205 => 134 | 321 => 136 | 322 => 137 | 243 => 138 | 246 => 139 | 283 => 140 | 284 => 141 | 285 => 142 | 286 => 143 | 129 => 145 | 317 => 144 | 318 => 146 | 319 => 147 | 320 => 148 | 337 => 149 | 338 => 150 | n => n, fun | 9 => 9 | 3 => 3 | 75 => 166 | 76 => 167 | 4 => 4 | 5 => 5 | 167 => 193 | 37 => 34 | 0 => 0 | 85 => 194 | 2 => 2 | 168 => 196 | 53 => 26 | 175 => 199 | 46 => 183 | 210 => 203 | 127 => 208 | 145 => 211 | 143 => 209 | 21 => 21 | 171 => 213 | 173 => 216 | 212 => 219 | 51 => 188 | 20 => 20 | 213 => 220 | 232 => 223 | 233 => 224 | 80 => 225 | n => n, fun | 15 => 0 | 16 => 1 | 17 => 2 | 18 => 3 | 19 => 4 | n => n⟩
theorem Tryz.laysC172 : Go.Proofs.LaysC.n172 Tryz.prog Tryz.laysC172_ren := {
 mixed := by kernel_rfl
 f129 := Tryz.func145.trans (congrArg some (by kernel_rfl))
 f171 := Tryz.func135.trans (congrArg some (by kernel_rfl))
 f172 := Tryz.func99.trans (congrArg some (by kernel_rfl))
 f205 := Tryz.func134.trans (congrArg some (by kernel_rfl))
 f243 := Tryz.func138.trans (congrArg some (by kernel_rfl))
 f244 := Tryz.func123.trans (congrArg some (by kernel_rfl))
 f245 := Tryz.func124.trans (congrArg some (by kernel_rfl))
 f246 := Tryz.func139.trans (congrArg some (by kernel_rfl))
 f247 := Tryz.func127.trans (congrArg some (by kernel_rfl))
 f279 := Tryz.func128.trans (congrArg some (by kernel_rfl))
 f280 := Tryz.func129.trans (congrArg some (by kernel_rfl))
 f281 := Tryz.func130.trans (congrArg some (by kernel_rfl))
 f282 := Tryz.func131.trans (congrArg some (by kernel_rfl))
 f283 := Tryz.func140.trans (congrArg some (by kernel_rfl))
 f284 := Tryz.func141.trans (congrArg some (by kernel_rfl))
 f285 := Tryz.func142.trans (congrArg some (by kernel_rfl))
 f286 := Tryz.func143.trans (congrArg some (by kernel_rfl))
 f287 := Tryz.func132.trans (congrArg some (by kernel_rfl))
 f316 := Tryz.func133.trans (congrArg some (by kernel_rfl))
 f317 := Tryz.func144.trans (congrArg some (by kernel_rfl))
 f318 := Tryz.func146.trans (congrArg some (by kernel_rfl))
 f319 := Tryz.func147.trans (congrArg some (by kernel_rfl))
 f320 := Tryz.func148.trans (congrArg some (by kernel_rfl))
 f321 := Tryz.func136.trans (congrArg some (by kernel_rfl))
 f322 := Tryz.func137.trans (congrArg some (by kernel_rfl))
 f337 := Tryz.func149.trans (congrArg some (by kernel_rfl))
 f338 := Tryz.func150.trans (congrArg some (by kernel_rfl))
 t0 := Tryz.underlying0
 a0 := Tryz.isAgg0
 z0 := Tryz.sizeOf0
 v0 := Tryz.zeroValue0
 t2 := Tryz.underlying2
 a2 := Tryz.isAgg2
 z2 := Tryz.sizeOf2
 v2 := Tryz.zeroValue2
 t3 := Tryz.underlying3
 a3 := Tryz.isAgg3
 z3 := Tryz.sizeOf3
 v3 := Tryz.zeroValue3
 t4 := Tryz.underlying4
 a4 := Tryz.isAgg4
 z4 := Tryz.sizeOf4
 v4 := Tryz.zeroValue4
 t5 := Tryz.underlying5
 a5 := Tryz.isAgg5
 z5 := Tryz.sizeOf5
 v5 := Tryz.zeroValue5
 t9 := Tryz.underlying9
 a9 := Tryz.isAgg9
 z9 := Tryz.sizeOf9
 v9 := Tryz.zeroValue9
 t20 := Tryz.underlying20
 a20 := Tryz.isAgg20
 z20 := Tryz.sizeOf20
 v20 := Tryz.zeroValue20
 t21 := Tryz.underlying21
 a21 := Tryz.isAgg21
 z21 := Tryz.sizeOf21
 v21 := Tryz.zeroValue21
 t37 := Tryz.underlying34
 a37 := Tryz.isAgg34
 z37 := Tryz.sizeOf34
 v37 := Tryz.zeroValue34
 t46 := Tryz.underlying183
 a46 := Tryz.isAgg183
 z46 := Tryz.sizeOf183
 v46 := Tryz.zeroValue183
 t51 := Tryz.underlying188
 a51 := Tryz.isAgg188
 z51 := Tryz.sizeOf188
 v51 := Tryz.zeroValue188
 t53 := Tryz.underlying26
 a53 := Tryz.isAgg26
 z53 := Tryz.sizeOf26
 v53 := Tryz.zeroValue26
 t75 := Tryz.underlying166
 a75 := Tryz.isAgg166
 z75 := Tryz.sizeOf166
 v75 := Tryz.zeroValue166
 t76 := Tryz.underlying167
 a76 := Tryz.isAgg167
 z76 := Tryz.sizeOf167
 v76 := Tryz.zeroValue167
 t85 := Tryz.underlying194
 a85 := Tryz.isAgg194
 z85 := Tryz.sizeOf194
 v85 := Tryz.zeroValue194
 t127 := Tryz.underlying208
 a127 := Tryz.isAgg208
 z127 := Tryz.sizeOf208
 v127 := Tryz.zeroValue208
 t143 := Tryz.underlying209
 a143 := Tryz.isAgg209
 z143 := Tryz.sizeOf209
 v143 := Tryz.zeroValue209
 t145 := Tryz.underlying211
 a145 := Tryz.isAgg211
 z145 := Tryz.sizeOf211
 v145 := Tryz.zeroValue211
 t167 := Tryz.underlying193
 a167 := Tryz.isAgg193
 z167 := Tryz.sizeOf193
 v167 := Tryz.zeroValue193
 t168 := Tryz.underlying196
 a168 := Tryz.isAgg196
 z168 := Tryz.sizeOf196
 v168 := Tryz.zeroValue196
 t171 := Tryz.underlying213
 a171 := Tryz.isAgg213
 z171 := Tryz.sizeOf213
 v171 := Tryz.zeroValue213
 t173 := Tryz.underlying216
 a173 := Tryz.isAgg216
 z173 := Tryz.sizeOf216
 v173 := Tryz.zeroValue216
 t175 := Tryz.underlying199
 a175 := Tryz.isAgg199
 z175 := Tryz.sizeOf199
 v175 := Tryz.zeroValue199
 t210 := Tryz.underlying203
 a210 := Tryz.isAgg203
 z210 := Tryz.sizeOf203
 v210 := Tryz.zeroValue203
 t212 := Tryz.underlying219
 a212 := Tryz.isAgg219
 z212 := Tryz.sizeOf219
 v212 := Tryz.zeroValue219
 t213 := Tryz.underlying220
 a213 := Tryz.isAgg220
 z213 := Tryz.sizeOf220
 t232 := Tryz.underlying223
 a232 := Tryz.isAgg223
 z232 := Tryz.sizeOf223
 v232 := Tryz.zeroValue223
 t233 := Tryz.underlying224
 a233 := Tryz.isAgg224
 z233 := Tryz.sizeOf224
 v233 := Tryz.zeroValue224
 g15 := by kernel_rfl
 g16 := by kernel_rfl
 g17 := by kernel_rfl
 g18 := by kernel_rfl
 g19 := by kernel_rfl
 t80 := Tryz.underlying225
 a80 := Tryz.isAgg225
 z80 := Tryz.sizeOf225
 v80 := Tryz.zeroValue225
 i0 := by kernel_rfl
 i2 := by kernel_rfl
 i3 := by kernel_rfl
 i4 := by kernel_rfl
 i5 := by kernel_rfl
 i9 := by kernel_rfl
 i20 := by kernel_rfl
 i21 := by kernel_rfl
 i37 := by kernel_rfl
 i46 := by kernel_rfl
 i51 := by kernel_rfl
 i53 := by kernel_rfl
 i75 := by kernel_rfl
 i76 := by kernel_rfl
 i80 := by kernel_rfl
 i85 := by kernel_rfl
 i127 := by kernel_rfl
 i143 := by kernel_rfl
 i145 := by kernel_rfl
 i167 := by kernel_rfl
 i168 := by kernel_rfl
 i171 := by kernel_rfl
 i173 := by kernel_rfl
 i175 := by kernel_rfl
 i210 := by kernel_rfl
 i212 := by kernel_rfl
 i232 := by kernel_rfl
 i233 := by kernel_rfl
 m15 := by kernel_rfl
 m16 := by kernel_rfl
 m17 := by kernel_rfl
 m18 := by kernel_rfl
 m19 := by kernel_rfl
 c0 := by kernel_rfl
 c2 := by kernel_rfl
 c3 := by kernel_rfl
 c4 := by kernel_rfl
 c5 := by kernel_rfl
 c9 := by kernel_rfl
 c20 := by kernel_rfl
 c21 := by kernel_rfl
 c37 := by kernel_rfl
 c46 := by kernel_rfl
 c51 := by kernel_rfl
 c53 := by kernel_rfl
 c75 := by kernel_rfl
 c76 := by kernel_rfl
 c80 := by kernel_rfl
 c85 := by kernel_rfl
 c127 := by kernel_rfl
 c143 := by kernel_rfl
 c145 := by kernel_rfl
 c167 := by kernel_rfl
 c168 := by kernel_rfl
 c171 := by kernel_rfl
 c173 := by kernel_rfl
 c175 := by kernel_rfl
 c210 := by kernel_rfl
 c212 := by kernel_rfl
 c213 := by kernel_rfl
 c232 := by kernel_rfl
 c233 := by kernel_rfl }
open Go.RowKit in
theorem Tryz.strconv_Atoi_ok (s : ByteArray) (hmax : s.size ≤ 9223372036854775806) (v : Int) (h : Lib.atoiAll s.data.toList = .ok v) (w : World) :
  Calls Tryz.prog 99 #[.string s] w fun e w' => e = .returned (.tuple #[.int .i64 v, .nilIface]) ∧ (w' = w ∨ ∃ t, w' = Lib.bytesWorld w 5 t) := Any.strconv_Atoi_ok Tryz.laysC172 s hmax v h w
open Go.RowKit in
theorem Tryz.strconv_Atoi_range (s : ByteArray) (hlim : s.size ≤ 281474976710656) (h : Lib.atoiAll s.data.toList = .range) (ev : Value) (w : World) (hv : w.cell? ⟨1, 0, none⟩ = some ev) (hev : ev = .nilIface ∨ ∃ te pe, ev = .iface te pe) :
  Calls Tryz.prog 99 #[.string s] w fun e w' => ∃ N, e = .returned (.tuple #[.int .i64 (Lib.atoiSat s.data.toList), .iface 196 (.pointer (some ⟨N, 0, none⟩))]) ∧ w.heap.size ≤ N ∧ w'.heap[N]? = some (.cells #[.string ⟨#[65, 116, 111, 105]⟩, .string s, ev] 203 (0, 0)) ∧ Below w.heap.size w w' := Any.strconv_Atoi_range Tryz.laysC172 s hlim h ev w hv hev
end Go.Proofs
namespace Go.Proofs.Rf
open Go Go.RowKit
theorem fold_mono : ∀ (l : List UInt8) (n : Nat), n ≤ l.foldl (fun n c => n * 10 + (c.toNat - 48)) n
 | [], _ => Nat.le_refl _
 | c :: r, n => Nat.le_trans (by omega) (fold_mono r (n * 10 + (c.toNat - 48)))
theorem z6c : ∀ (l : List UInt8) (n : Nat), digs l = true → n < 18446744073709551616 →
  Lib.parseUint10 n l = (if l.foldl (fun n c => n * 10 + (c.toNat - 48)) n < 18446744073709551616 then .ok (l.foldl (fun n c => n * 10 + (c.toNat - 48)) n) else .range)
 | [], n, _, hn => by
  show Lib.NumEnd.ok n = _
  rw [List.foldl_nil, if_pos hn]
 | c :: r, n, hd, hn => by
  unfold digs at hd
  rw [List.all_cons, Bool.and_eq_true, Bool.and_eq_true, Nat.ble_eq, Nat.ble_eq] at hd
  obtain ⟨⟨h1, h2⟩, h3⟩ := hd
  rw [Lib.parseUint10, if_pos ⟨h1, h2⟩, List.foldl_cons]
  have hm := fold_mono r (n * 10 + (c.toNat - 48))
  by_cases h4 : 1844674407370955162 ≤ n
  ·rw [if_pos h4, if_neg (by omega)]
  ·rw [if_neg h4]
   by_cases h5 : 18446744073709551616 ≤ n * 10 + (c.toNat - 48)
   ·rw [if_pos h5, if_neg (by omega)]
   ·rw [if_neg h5]
    exact z6c r _ h3 (by omega)
theorem atoi_digs {s : List UInt8} (h : digs s = true) (h0 : 0 < s.length) :
  Lib.atoiAll s = (if numOf s < 9223372036854775808 then .ok (numOf s : Int) else .range) ∧ (Lib.atoiAll s = .range → Lib.atoiSat s = 9223372036854775807) := by
 cases s with
 | nil => simp at h0
 | cons c r =>
  have hp := z6c (c :: r) 0 h (by omega)
  unfold digs at h
  rw [List.all_cons, Bool.and_eq_true, Bool.and_eq_true, Nat.ble_eq, Nat.ble_eq] at h
  obtain ⟨⟨h1, h2⟩, h3⟩ := h
  have hc : ¬ (c.toNat = 43 ∨ c.toNat = 45) := by omega
  have hc' : ¬ c.toNat = 45 := by omega
  have hm : Lib.parseMag (c :: r) = (if numOf (c :: r) < 18446744073709551616 then .ok (numOf (c :: r)) else .range) := by
   unfold Lib.parseMag
   rw [if_neg (by simp)]
   exact hp
  refine ⟨?_, fun _ => ?_⟩
  ·unfold Lib.atoiAll
   simp only [if_neg hc, hm]
   by_cases h4 : numOf (c :: r) < 18446744073709551616
   ·rw [if_pos h4]
    simp only [hc', not_false_eq_true, true_and, false_and, if_false]
    by_cases h5 : numOf (c :: r) < 9223372036854775808
    ·rw [if_pos h5, if_neg (by omega)]
    ·rw [if_neg h5, if_pos (by omega)]
   ·rw [if_neg h4, if_neg (by omega)]
  ·unfold Lib.atoiSat
   simp [hc']
theorem rel_ic {w : World} {ok : Nat → Prop} {ι : Nat → Option Value} {b : Bool} {v : Value} (h : isIf b v) : RelV w ok ι (.d .ic b) v := by
 simp only [RelV]
 exact ⟨v, rfl, h⟩
theorem call99 : z0a Tryz.prog 99 (mkCall ps99 rs99 F99) := by
 refine ⟨⟨Tryz.f99, Tryz.func99, by kernel_rfl, by kernel_rfl⟩, ?_, ?_⟩
 ·intro X keep w0 w ι C nb args vs e h hv hco hn
  unfold mkCall at hco
  split at hco
  ·rename_i x fz hx
   obtain ⟨y, hy, hco⟩ := z0J hco
   injection hco with hco
   subst hco
   obtain ⟨⟨H1, hFr, E1⟩, hrel⟩ := SV.z0Y ps99 C args vs h (z0w.refl C) hv x fz hx
   have hargs : RelL w (okb X w ι (updC C fz)) (fun _ => none) (SV.putL ps99 x) vs := hrel _ _ (fun b hb => hb) (fun b i hb => by simp at hb)
   obtain ⟨s, ⟨⟩⟩ := x
   obtain ⟨v, vr, e1, h1, h2⟩ := z0c.1 hargs
   rw [z0d.1 h2] at e1
   subst e1
   have h1 := z1j.1 h1
   subst h1
   obtain ⟨_, v1, w1, d1, hiv, hgl⟩ := H1.gl.2 1 rfl
   have hcell : w.cell? ⟨1, 0, none⟩ = some v1 := by simp [World.cell?, hgl]
   unfold F99 at hy
   split at hy
   ·rename_i hd
    rw [Bool.and_eq_true, Bool.and_eq_true] at hd
    obtain ⟨⟨hd1, hd2⟩, hd3⟩ := hd
    have hd2 : 0 < s.length := Nat.lt_of_succ_le (by simpa [Nat.blt] using hd2)
    have hd3 : s.length ≤ 1000 := by simpa using hd3
    obtain ⟨a1, a2⟩ := atoi_digs hd1 hd2
    split at hy
    ·rename_i hlt
     injection hy with hy
     subst hy
     rw [if_pos hlt] at a1
     refine (Go.Proofs.Tryz.strconv_Atoi_ok ⟨s.toArray⟩ (by simp [ByteArray.size]; omega) _ (by simpa using a1) w).mono ?_
     rintro en w' ⟨rfl, hb⟩
     have hb : Below w.heap.size w w' := by
      rcases hb with rfl | ⟨t, rfl⟩
      ·exact Below.refl _ _
      ·exact Lib.bytesWorld_below _ _ _
     refine ⟨_, rfl, ?_⟩
     show Out X keep w0 ι C w nb ⟨.tp [.d (.int .i64) (numOf s : Int), .d .ic true], [], []⟩ _ w'
     obtain ⟨g1, g2⟩ := h.step (C' := C) (ι' := ι) (w' := w') (fun _ => False) hb.os hb.tape hb.output hb.size (fun _ _ => rfl) (fun _ _ hk => hk) (fun _ _ => rfl) (fun _ _ hk => hk.elim) (fun _ _ _ hk => hk.elim) (fun b hb' _ => hb.block b hb') (fun _ _ hk => hk.elim)
     refine ⟨ι, g1, g2, ?_, fun _ _ => rfl⟩
     simp only [RelV]
     exact ⟨_, rfl, z0c.2 ⟨_, _, rfl, z0l.2 rfl, z0c.2 ⟨_, _, rfl, rel_ic rfl, z0d.2 rfl⟩⟩⟩
    ·rename_i hlt
     injection hy with hy
     subst hy
     rw [if_neg hlt] at a1
     have a2 := a2 a1
     refine (Go.Proofs.Tryz.strconv_Atoi_range ⟨s.toArray⟩ (by simp [ByteArray.size]; omega) (by simpa using a1) v1 w hcell hiv).mono ?_
     rintro en w' ⟨N, rfl, _, _, hb⟩
     refine ⟨_, rfl, ?_⟩
     show Out X keep w0 ι C w nb ⟨.tp [.d (.int .i64) 9223372036854775807, .d .ic false], [], []⟩ _ w'
     obtain ⟨g1, g2⟩ := h.step (C' := C) (ι' := ι) (w' := w') (fun _ => False) hb.os hb.tape hb.output hb.size (fun _ _ => rfl) (fun _ _ hk => hk) (fun _ _ => rfl) (fun _ _ hk => hk.elim) (fun _ _ _ hk => hk.elim) (fun b hb' _ => hb.block b hb') (fun _ _ hk => hk.elim)
     refine ⟨ι, g1, g2, ?_, fun _ _ => rfl⟩
     simp only [RelV]
     have a3 : Lib.atoiSat (ByteArray.mk s.toArray).data.toList = 9223372036854775807 := by simpa using a2
     rw [a3]
     exact ⟨_, rfl, z0c.2 ⟨_, _, rfl, z0l.2 rfl, z0c.2 ⟨_, _, rfl, rel_ic ⟨_, _, rfl⟩, z0d.2 rfl⟩⟩⟩
   ·cases hy
  ·cases hco
 ·intro args C nb R K
  unfold mkCall
  split
  ·rename_i x fz hx
   cases F99 x <;> rfl
  ·rfl
end Go.Proofs.Rf
set_option linter.unusedVariables false
namespace Go.Proofs.Rf
open Go Go.RowKit
noncomputable def Lg8_4 : z7Z.den → Option (denX w8_4) := limL (S8_4)
noncomputable def L8 : TF8 := F8 Lg8_4
theorem okL8 : z0a Tryz.prog 8 (mkCall ps8 rs8 L8) := call8 (z0B _)
noncomputable def L12 : TF12 := F12
theorem okL12 : z0a Tryz.prog 12 (mkCall ps12 rs12 L12) := call12
noncomputable def Lg48_2 : z4f.den → Option (denX w48_2) := limL (S48_2)
noncomputable def L48 : TF48 := F48 Lg48_2
theorem okL48 : z0a Tryz.prog 48 (mkCall ps48 rs48 L48) := call48 (z0B _)
noncomputable def L49 : TF49 := F49
theorem okL49 : z0a Tryz.prog 49 (mkCall ps49 rs49 L49) := call49
noncomputable def Lg115_2 : z2J.den → Option (denX z4z) := limL (S115_2)
noncomputable def L115 : TF115 := F115 Lg115_2
theorem okL115 : z0a Tryz.prog 115 (mkCall ps115 rs115 L115) := call115 (z0B _)
noncomputable def L90 : TF90 := F90 L115
theorem okL90 : z0a Tryz.prog 90 (mkCall ps90 rs90 L90) := call90 okL115
noncomputable def L50 : TF50 := F50 L90
theorem okL50 : z0a Tryz.prog 50 (mkCall ps50 rs50 L50) := call50 okL90
noncomputable def L51 : TF51 := F51
theorem z5F : z0a Tryz.prog 51 (mkCall ps51 rs51 L51) := call51
noncomputable def L68 : TF68 := F68
theorem okL68 : z0a Tryz.prog 68 (mkCall ps68 rs68 L68) := call68
noncomputable def L52 : TF52 := F52 L51 L68
theorem okL52 : z0a Tryz.prog 52 (mkCallB z6T rs52 m52 1 L52) := call52 z5F okL68
noncomputable def L14 : TF14 := F14 L48 L49 L50 L51 L52
theorem okL14 : z0a Tryz.prog 14 (mkCallB z6Y rs14 m14 1 L14) := call14 okL48 okL49 okL50 z5F okL52
noncomputable def L98 : TF98 := F98
theorem okL98 : z0a Tryz.prog 98 (mkCall ps98 rs98 L98) := call98
abbrev L99 : TF99 := F99
theorem okL99 : z0a Tryz.prog 99 (mkCall ps99 rs99 L99) := call99
noncomputable def Lg69_7 : z4a.den → Option (denX w69_7) := limL (S69_7)
noncomputable def L69 : TF69 := F69 L98 L99 Lg69_7
theorem okL69 : z0a Tryz.prog 69 (mkCall ps69 rs69 L69) := call69 okL98 okL99 (z0B _)
noncomputable def L28 : TF28 := F28 L69
theorem okL28 : z0a Tryz.prog 28 (mkCall ps28 rs28 L28) := call28 okL69
noncomputable def Lg70_2 : z4I.den → Option (denX w70_2) := limL (S70_2)
noncomputable def L70 : TF70 := F70 Lg70_2
theorem okL70 : z0a Tryz.prog 70 (mkCall ps70 rs70 L70) := call70 (z0B _)
noncomputable def L54 : TF54 := F54 L28 L70
theorem okL54 : z0a Tryz.prog 54 (mkCall ps54 rs54 L54) := call54 okL28 okL70
noncomputable def L92 : TF92 := F92
theorem okL92 : z0a Tryz.prog 92 (mkCall ps92 rs92 L92) := call92
noncomputable def L65 : TF65 := F65 L51
theorem okL65 : z0a Tryz.prog 65 (mkCall ps65 rs65 L65) := call65 z5F
noncomputable def L117 : TF117 := F117 L51 L65
theorem okL117 : z0a Tryz.prog 117 (mkCall ps117 rs117 L117) := call117 z5F okL65
noncomputable def L118 : TF118 := F118
theorem okL118 : z0a Tryz.prog 118 (mkCall ps118 rs118 L118) := call118
noncomputable def L119 : TF119 := F119
theorem okL119 : z0a Tryz.prog 119 (mkCall ps119 rs119 L119) := call119
noncomputable def L120 : TF120 := F120
theorem okL120 : z0a Tryz.prog 120 (mkCall ps120 rs120 L120) := call120
noncomputable def Lg55_4 : z4e.den → Option (denX w55_4) := limL (S55_4 L117 L118 L119 L120)
noncomputable def L55 : TF55 := F55 L92 Lg55_4
theorem okL55 : z0a Tryz.prog 55 (mkCall ps55 rs55 L55) := call55 okL117 okL118 okL119 okL120 okL92 (z0B _)
noncomputable def L96 : TF96 := F96
theorem okL96 : z0a Tryz.prog 96 (mkCall ps96 rs96 L96) := call96
noncomputable def LD121 : z8g := colK (B121) (Y121) 20
theorem okLI121 : z5s Tryz.prog 121 z4x (z7D LD121) := it121 (coll_colK _ _ _)
noncomputable def Lg93_5 : List z3b → z2s.den → Option (z2s.den ⊕ denX w93_5) := foldR (S93_5 L51)
noncomputable def L93 : TF93 := F93 L51 L96 LD121 Lg93_5
theorem okL93 : z0a Tryz.prog 93 (mkCall ps93 rs93 L93) := call93 okLI121 z5F okL96 rfl
noncomputable def L94 : TF94 := F94 L69
theorem okL94 : z0a Tryz.prog 94 (mkCall ps94 rs94 L94) := call94 okL69
noncomputable def Lg56_9 : z4d.den → Option (denX w56_9) := limL (S56_9)
noncomputable def L56 : TF56 := F56 L51 L93 L94 Lg56_9
theorem okL56 : z0a Tryz.prog 56 (mkCall ps56 rs56 L56) := call56 z5F okL93 okL94 (z0B _)
noncomputable def L57v : TF57v := F57v
theorem okL57v : z0a Tryz.prog 57 (mkCall z6Z z6i L57v) := call57v
noncomputable def L16 : TF16 := F16 L51 L54 L55 L56 L57v
theorem okL16 : z0a Tryz.prog 16 (mkCall ps16 rs16 L16) := call16 z5F okL54 okL55 okL56 okL57v
noncomputable def L57 : TF57 := F57
theorem okL57 : z0a Tryz.prog 57 (mkCallB z4W rs57 m57 1 L57) := call57
noncomputable def L95 : TF95 := F95 L65 L94
theorem okL95 : z0a Tryz.prog 95 (mkCall ps95 rs95 L95) := call95 okL65 okL94
noncomputable def L126 : TF126 := F126
theorem okL126 : z0a Tryz.prog 126 (mkCall ps126 rs126 L126) := call126
noncomputable def L122 : TF122 := F122 L126
theorem okL122 : z0a Tryz.prog 122 (mkCall ps122 rs122 L122) := call122 okL126
noncomputable def Lg97_8 : z4D.den → Option (denX w97_8) := limL (S97_8)
noncomputable def L97 : TF97 := F97 L122 Lg97_8
theorem okL97 : z0a Tryz.prog 97 (mkCall ps97 rs97 L97) := call97 okL122 (z0B _)
noncomputable def Lg58_10 : List z3b → z1G.den → Option (z1G.den ⊕ denX z5U) := foldR (S58_10)
noncomputable def Lg58_3 : z4c.den → Option (denX w58_3) := limL (S58_3)
noncomputable def L58 : TF58 := F58 L51 L95 L96 L97 LD121 Lg58_10 Lg58_3
theorem okL58 : z0a Tryz.prog 58 (mkCall ps58 rs58 L58) := call58 okLI121 z5F okL95 okL96 okL97 rfl (z0B _)
noncomputable def L17 : TF17 := F17 L54 L55 L57 L58
theorem okL17 : z0a Tryz.prog 17 (mkCallB z6X rs17 m17 1 L17) := call17 okL54 okL55 okL57 okL58
noncomputable def Lg59_2 : z4b.den → Option (denX w59_2) := limL (S59_2)
noncomputable def L59 : TF59 := F59 Lg59_2
theorem okL59 : z0a Tryz.prog 59 (mkCall ps59 rs59 L59) := call59 (z0B _)
noncomputable def L60 : TF60 := F60
theorem okL60 : z0a Tryz.prog 60 (mkCall ps60 rs60 L60) := call60
noncomputable def L19 : TF19 := F19 L55 L57 L59 L60
theorem okL19 : z0a Tryz.prog 19 (mkCallB z6W rs19 m19 1 L19) := call19 okL55 okL57 okL59 okL60
noncomputable def L22 : TF22 := F22
theorem okL22 : z0a Tryz.prog 22 (mkCall ps22 rs22 L22) := call22
noncomputable def L66 : TF66 := F66 L51
theorem okL66 : z0a Tryz.prog 66 (mkCall ps66 rs66 L66) := call66 z5F
noncomputable def L25 : TF25 := F25 L51 L65 L66
theorem okL25 : z0a Tryz.prog 25 (mkCall ps25 rs25 L25) := call25 z5F okL65 okL66
noncomputable def L67 : TF67 := F67 L68
theorem okL67 : z0a Tryz.prog 67 (mkCallB z6S rs67 m67 1 L67) := call67 okL68
noncomputable def L26 : TF26 := F26 L51 L65 L67
theorem okL26 : z0a Tryz.prog 26 (mkCallB z6V rs26 m26 1 L26) := call26 z5F okL65 okL67
noncomputable def L27 : TF27 := F27 L50 L51 L52 L68
theorem okL27 : z0a Tryz.prog 27 (mkCallB z6U rs27 m27 1 L27) := call27 okL50 z5F okL52 okL68
noncomputable def L30 : TF30 := F30
theorem okL30 : z0a Tryz.prog 30 (mkCall ps30 rs30 L30) := call30
noncomputable def L35 : TF35 := F35
theorem okL35 : z0a Tryz.prog 35 (mkCall ps35 rs35 L35) := call35
noncomputable def L39 : TF39 := F39
theorem okL39 : z0a Tryz.prog 39 (mkCall ps39 rs39 L39) := call39
noncomputable def L18 : TF18 := F18 L39
theorem okL18 : z0a Tryz.prog 18 (mkCall ps18 rs18 L18) := call18 okL39
noncomputable def L20 : TF20 := F20 L55 L57
theorem okL20 : z0a Tryz.prog 20 (mkCallB psh20 rs20 m20 1 L20) := call20 okL55 okL57
noncomputable def L38 : TF38 := F38
theorem okL38 : z0a Tryz.prog 38 (mkCall ps38 rs38 L38) := call38
noncomputable def L84 : TF84 := F84 L49
theorem okL84 : z0a Tryz.prog 84 (mkCall ps84 rs84 L84) := call84 okL49
noncomputable def L40 : TF40 := F40 L67 L84
theorem okL40 : z0a Tryz.prog 40 (mkCallB psh40 rs40 m40 1 L40) := call40 okL67 okL84
noncomputable def L41 : TF41 := F41 L38
theorem okL41 : z0a Tryz.prog 41 (mkCall ps41 rs41 L41) := call41 okL38
noncomputable def L86 : TF86 := F86
theorem okL86 : z0a Tryz.prog 86 (mkCall ps86 rs86 L86) := call86
noncomputable def Lg114_2 : z3f.den → Option (denX z5V) := limL (S114_2 L86)
noncomputable def L114 : TF114 := F114 Lg114_2
theorem okL114 : z0a Tryz.prog 114 (mkCall ps114 rs114 L114) := call114 okL86 (z0B _)
noncomputable def L85 : TF85 := F85 L114
theorem okL85 : z0a Tryz.prog 85 (mkCall ps85 rs85 L85) := call85 okL114
noncomputable def L88 : TF88 := F88
theorem okL88 : z0a Tryz.prog 88 (mkCall ps88 rs88 L88) := call88
noncomputable def Lg87_3 : z4F.den → Option (denX w87_3) := limL (S87_3 L88)
noncomputable def L87 : TF87 := F87 Lg87_3
theorem okL87 : z0a Tryz.prog 87 (mkCall ps87 rs87 L87) := call87 okL88 (z0B _)
noncomputable def L42 : TF42 := F42 L55 L57v L85 L87
theorem okL42 : z0a Tryz.prog 42 (mkCall ps42 rs42 L42) := call42 okL55 okL57v okL85 okL87
noncomputable def L89 : TF89 := F89 L84
theorem okL89 : z0a Tryz.prog 89 (mkCallB z8a rs89 m89 1 L89) := call89 okL84
noncomputable def Lg43_6 : z4J.den → Option (denX w43_6) := limL (S43_6)
noncomputable def L43 : TF43 := F43 L48 L49 L89 Lg43_6
theorem okL43 : z0a Tryz.prog 43 (mkCallB psh43 rs43 m43 1 L43) := call43 okL48 okL49 okL89 (z0B _)
noncomputable def L44 : TF44 := F44
theorem okL44 : z0a Tryz.prog 44 (mkCall ps44 rs44 L44) := call44
noncomputable def L45 : TF45 := F45
theorem okL45 : z0a Tryz.prog 45 (mkCall ps45 rs45 L45) := call45
noncomputable def L46 : TF46 := F46 L48 L49 L58 L65 L89
theorem okL46 : z0a Tryz.prog 46 (mkCallB psh46 rs46 m46 1 L46) := call46 okL48 okL49 okL58 okL65 okL89
noncomputable def L47 : TF47 := F47 L51 L65
theorem okL47 : z0a Tryz.prog 47 (mkCall ps47 rs47 L47) := call47 z5F okL65
noncomputable def L13 : TF13 := F13 L14 L16 L17 L18 L19 L20 L25 L26 L27 L38 L39 L40 L41 L42 L43 L44 L45 L46 L47
theorem okL13 : z0a Tryz.prog 13 (mkCallB psh13 rs13 m13 1 L13) := call13 okL14 okL16 okL17 okL18 okL19 okL20 okL25 okL26 okL27 okL38 okL39 okL40 okL41 okL42 okL43 okL44 okL45 okL46 okL47
noncomputable def L61 : TF61 := F61
theorem okL61 : z0a Tryz.prog 61 (mkCall ps61 rs61 L61) := call61
noncomputable def L21 : TF21 := F21 L61
theorem okL21 : z0a Tryz.prog 21 (mkCall ps21 rs21 L21) := call21 okL61
noncomputable def Lg100_2 : z3i.den → Option (denX z5Y) := limL (S100_2)
noncomputable def L100 : TF100 := F100 Lg100_2
theorem okL100 : z0a Tryz.prog 100 (mkCall ps100 rs100 L100) := call100 (z0B _)
noncomputable def L101 : TF101 := F101
theorem okL101 : z0a Tryz.prog 101 (mkCall z8e z6K L101) := call101
noncomputable def L102 : TF102 := F102
theorem okL102 : z0a Tryz.prog 102 (mkCall z8d z6J L102) := call102
noncomputable def L103 : z2Z := F103
theorem okL103 : z0a Tryz.prog 103 (mkCall z2B z2u L103) := call103
noncomputable def L105 : z7J := F105
theorem okL105 : z0a Tryz.prog 105 (mkCall z5C z4S L105) := call105
noncomputable def L104 : TF104 := F104 L105
theorem okL104 : z0a Tryz.prog 104 (mkCallB z4k z6I m104 1 L104) := call104 okL105
noncomputable def L71 : TF71 := F71 L100 L101 L102 L103 L104
theorem okL71 : z0a Tryz.prog 71 (mkCallB psh71 rs71 m71 1 L71) := call71 okL100 okL101 okL102 okL103 okL104
noncomputable def L72 : TF72 := F72 L102 L103 L104 L105
theorem okL72 : z0a Tryz.prog 72 (mkCallB psh72 rs72 m72 1 L72) := call72 okL102 okL103 okL104 okL105
noncomputable def L106 : z2M := F106
theorem z8u : z0a Tryz.prog 106 (mkCall z2w z2j L106) := call106
noncomputable def L107 : TF107 := F107 L105
theorem okL107 : z0a Tryz.prog 107 (mkCallB z4j z6H m107 1 L107) := call107 okL105
noncomputable def L73 : TF73 := F73 L106 L107
theorem okL73 : z0a Tryz.prog 73 (mkCallB psh73 rs73 m73 1 L73) := call73 z8u okL107
noncomputable def L108 : z7I := F108 L101
theorem okL108 : z0a Tryz.prog 108 (mkCall z5B z4R L108) := call108 okL101
noncomputable def L74 : TF74 := F74 L107 L108
theorem okL74 : z0a Tryz.prog 74 (mkCallB psh74 rs74 m74 1 L74) := call74 okL107 okL108
noncomputable def L116 : TF116 := F116
theorem okL116 : z0a Tryz.prog 116 (mkCall ps116 rs116 L116) := call116
noncomputable def Lg91_5 : z4E.den → Option (denX w91_5) := limL (S91_5 L116)
noncomputable def L91 : TF91 := F91 Lg91_5
theorem okL91 : z0a Tryz.prog 91 (mkCall ps91 rs91 L91) := call91 okL116 (z0B _)
noncomputable def L53 : TF53 := F53 L91
theorem okL53 : z0a Tryz.prog 53 (mkCall ps53 rs53 L53) := call53 okL91
noncomputable def L15 : TF15 := F15 L53
theorem okL15 : z0a Tryz.prog 15 (mkCall ps15 rs15 L15) := call15 okL53
noncomputable def Lg109_5 : z3A.den → Option (denX z6y) := limL (S109_5)
noncomputable def L109 : TF109 := F109 L15 Lg109_5
theorem okL109 : z0a Tryz.prog 109 (mkCall z8c z6G L109) := call109 okL15 (z0B _)
noncomputable def L110 : z3K := F110 L106
theorem okL110 : z0a Tryz.prog 110 (mkCall z3l z2L L110) := call110 z8u
noncomputable def L36 : TF36 := F36
theorem okL36 : z0a Tryz.prog 36 (mkCall ps36 rs36 L36) := call36
noncomputable def L37 : TF37 := F37 L53
theorem okL37 : z0a Tryz.prog 37 (mkCall ps37 rs37 L37) := call37 okL53
noncomputable def Lg111_4 : z3h.den → Option (denX z5X) := limL (S111_4)
noncomputable def z6w : z2i.den → Option (denX z3v) := limL (S111_15 L103)
noncomputable def L111 : TF111 := F111 L36 L37 L103 Lg111_4 z6w
theorem okL111 : z0a Tryz.prog 111 (mkCall ps111 rs111 L111) := call111 okL103 okL36 okL37 (z0B _) (z0B _)
noncomputable def L75 : TF75 := F75 L15 L103 L109 L110 L111
theorem okL75 : z0a Tryz.prog 75 (mkCall ps75 rs75 L75) := call75 okL103 okL109 okL110 okL111 okL15
noncomputable def Lg112_4 : z3g.den → Option (denX z5W) := limL (S112_4 L36 L37)
noncomputable def L112 : TF112 := F112 L15 Lg112_4
theorem okL112 : z0a Tryz.prog 112 (mkCall z8b z6F L112) := call112 okL15 okL36 okL37 (z0B _)
noncomputable def L76 : TF76 := F76 L15 L106 L109 L110 L112
theorem okL76 : z0a Tryz.prog 76 (mkCallB psh76 rs76 m76 1 L76) := call76 z8u okL109 okL110 okL112 okL15
noncomputable def L77 : TF77 := F77 L110
theorem okL77 : z0a Tryz.prog 77 (mkCallB psh77 rs77 m77 1 L77) := call77 okL110
noncomputable def Lg78_5 : z4H.den → Option (denX w78_5) := limL (S78_5)
noncomputable def L78 : TF78 := F78 L110 Lg78_5
theorem okL78 : z0a Tryz.prog 78 (mkCallB psh78 rs78 m78 1 L78) := call78 okL110 (z0B _)
noncomputable def Lg79_8 : z4G.den → Option (denX w79_8) := limL (S79_8)
noncomputable def L79 : TF79 := F79 L110 Lg79_8
theorem okL79 : z0a Tryz.prog 79 (mkCall ps79 rs79 L79) := call79 okL110 (z0B _)
noncomputable def Lg80_10 : z3e.den → Option (denX z5T) := limL (S80_10)
noncomputable def L80 : TF80 := F80 L108 Lg80_10
theorem okL80 : z0a Tryz.prog 80 (mkCallB psh80 rs80 m80 1 L80) := call80 okL108 (z0B _)
noncomputable def L81 : TF81 := F81 L106 L108 L112
theorem okL81 : z0a Tryz.prog 81 (mkCallB psh81 rs81 m81 1 L81) := call81 z8u okL108 okL112
noncomputable def L113 : TF113 := F113
theorem okL113 : z0a Tryz.prog 113 (mkCall ps113 rs113 L113) := call113
noncomputable def L82 : TF82 := F82 L106 L113
theorem okL82 : z0a Tryz.prog 82 (mkCall ps82 rs82 L82) := call82 z8u okL113
noncomputable def L83 : TF83 := F83 L103 L106
theorem okL83 : z0a Tryz.prog 83 (mkCall ps83 rs83 L83) := call83 okL103 z8u
noncomputable def L31 : TF31 := F31 L71 L72 L73 L74 L75 L76 L77 L78 L79 L80 L81 L82 L83
theorem okL31 : z0a Tryz.prog 31 (mkCallB psh31 rs31 m31 1 L31) := call31 okL71 okL72 okL73 okL74 okL75 okL76 okL77 okL78 okL79 okL80 okL81 okL82 okL83
noncomputable def Lg32_4 : z4M.den → Option (denX w32_4) := limL (S32_4)
noncomputable def L32 : TF32 := F32 Lg32_4
theorem okL32 : z0a Tryz.prog 32 (mkCall ps32 rs32 L32) := call32 (z0B _)
noncomputable def Lg33_3 : z4L.den → Option (denX w33_3) := limL (S33_3)
noncomputable def L33 : TF33 := F33 Lg33_3
theorem okL33 : z0a Tryz.prog 33 (mkCall ps33 rs33 L33) := call33 (z0B _)
noncomputable def Lg34_3 : z4K.den → Option (denX w34_3) := limL (S34_3)
noncomputable def L34 : TF34 := F34 Lg34_3
theorem okL34 : z0a Tryz.prog 34 (mkCall ps34 rs34 L34) := call34 (z0B _)
noncomputable def Lg10_5 : z4g.den → Option (denX w10_5) := limL (S10_5 L13 L21 L31)
noncomputable def Lg10_15 : z2K.den → Option (denX z4A) := limL (S10_15 L32 L33 L34)
noncomputable def L10 : TF10 := F10 L12 L22 L30 L35 Lg10_5 Lg10_15
theorem okL10 : z0a Tryz.prog 10 (mkCall ps10 rs10 L10) := call10 okL12 okL13 okL21 okL22 okL30 okL31 okL32 okL33 okL34 okL35 (z0B _) (z0B _)
end Go.Proofs.Rf
namespace Go.Proofs.Rf
open Go Go.RowKit
theorem z0K {A B : Type} {f : A → Option (A ⊕ B)} (μ : A → Nat) (I : A → Prop) (Q : B → Prop) (h : ∀ x, I x → (∃ y, f x = some (.inl y) ∧ I y ∧ μ y < μ x) ∨ ∃ z, f x = some (.inr z) ∧ Q z) : ∀ x, I x → ∃ z, limL f x = some z ∧ Q z := by
 have key : ∀ n x, μ x = n → I x → ∃ z, limL f x = some z ∧ Q z := by
  intro n
  induction n using Nat.strongRecOn with
  | _ n ih =>
   intro x hx hI
   rw [limL_eq]
   rcases h x hI with ⟨y, h1, h2, h3⟩ | ⟨z, h1, h2⟩
   ·rw [h1]
    exact ih (μ y) (by omega) y rfl h2
   ·rw [h1]
    exact ⟨z, rfl, h2⟩
 exact fun x hI => key _ x rfl hI
theorem w8 {n : Int} (h0 : 0 ≤ n) (h1 : n < 256) : IntKind.u8.wrap n = n := by
 simp [IntKind.wrap, IntKind.bits, IntKind.signed]
 omega
theorem wi {n : Int} (h0 : -9223372036854775808 ≤ n) (h1 : n < 9223372036854775808) : IntKind.i64.wrap n = n := by
 simp [IntKind.wrap, IntKind.bits, IntKind.signed]
 omega
theorem z1S {A : Type} {l : List A} {k : Nat} (d : A) (h : k < l.length) : l.getD k d = l[k] := by simp [List.getD, h]
theorem z4C {A : Type} {l : List A} {d : A} {k : Nat} (h : k < l.length) : l.take k ++ [l.getD k d] = l.take (k + 1) := by
 rw [z1S d h, List.take_append_getElem h]
theorem getD_drop8 {s : List UInt8} {i : Nat} (h : i < s.length) : s.drop i = s.getD i 0 :: s.drop (i + 1) := by
 rw [List.drop_eq_getElem_cons h, List.getD_eq_getElem?_getD, List.getElem?_eq_getElem h]
 rfl
theorem decode_lo {s : List UInt8} {p : Nat} (hp : p < s.length) (h : (s.getD p 0).toNat < 128) : Utf8.decode ⟨s.toArray⟩ p = ((s.getD p 0).toNat, 1) := by
 have hp' : p < (⟨s.toArray⟩ : ByteArray).size := by simpa [ByteArray.size] using hp
 have e : (⟨s.toArray⟩ : ByteArray)[p]'hp' = s.getD p 0 := by
  rw [List.getD_eq_getElem?_getD, List.getElem?_eq_getElem hp]
  rfl
 have := decode_ascii ⟨s.toArray⟩ p hp' (by rw [e]; exact h)
 rw [e] at this
 exact this
theorem decode_hi {s : List UInt8} {p : Nat} (hp : p < s.length) (h : 128 ≤ (s.getD p 0).toNat) : 128 ≤ (Utf8.decode ⟨s.toArray⟩ p).1 := by
 have hp' : p < (⟨s.toArray⟩ : ByteArray).size := by simpa [ByteArray.size] using hp
 have e : (⟨s.toArray⟩ : ByteArray)[p]'hp' = s.getD p 0 := by
  rw [List.getD_eq_getElem?_getD, List.getElem?_eq_getElem hp]
  rfl
 exact (decode_high ⟨s.toArray⟩ p hp' (by rw [e]; exact h)).1
def isd (c : UInt8) : Bool := Nat.ble 48 c.toNat && Nat.ble c.toNat 57
theorem z4w {c : UInt8} : isd c = true ↔ 48 ≤ c.toNat ∧ c.toNat ≤ 57 := by simp [isd]
theorem z6t (s : List UInt8) : digs s = s.all isd := rfl
theorem all_drop {s : List UInt8} {p : Nat} (hp : p < s.length) : (s.drop p).all isd = (isd (s.getD p 0) && (s.drop (p + 1)).all isd) := by
 rw [getD_drop8 hp, List.all_cons]
theorem Lg69_7_val (t s : List UInt8) : Lg69_7 ((t, (), ()), ((s, 0), ())) = some (if digs s = true then .inr ((t, ()), ()) else .inl ((0, false, ()), ())) := by
 obtain ⟨z, h1, rfl⟩ := z0K (f := S69_7) (fun x => s.length - x.2.1.2)
  (fun x => ∃ p : Nat, x = ((t, (), ()), ((s, p), ())) ∧ p ≤ s.length ∧ s.all isd = (s.drop p).all isd)
  (fun z => z = (if digs s = true then .inr ((t, ()), ()) else .inl ((0, false, ()), ()))) (by
  rintro x ⟨p, rfl, hp, hall⟩
  rw [z6t]
  by_cases hlt : p < s.length
  ·have e := S69_7_eq t s p
   rw [if_pos hlt] at e
   rw [all_drop hlt] at hall
   by_cases hc : (s.getD p 0).toNat < 128
   ·have hd : Utf8.decode { data := { toList := s } } p = _ := decode_lo hlt hc
    rw [hd] at e
    by_cases hb : isd (s.getD p 0) = true
    ·left
     have hb' := z4w.1 hb
     rw [if_neg (by rw [decide_eq_true_eq]; omega), if_neg (by rw [decide_eq_true_eq]; omega)] at e
     refine ⟨_, e, ⟨p + 1, rfl, by omega, by rw [hall, hb, Bool.true_and]⟩, by show s.length - (p + 1) < s.length - p; omega⟩
    ·right
     have hb' : ¬ (48 ≤ (s.getD p 0).toNat ∧ (s.getD p 0).toNat ≤ 57) := fun h => hb (z4w.2 h)
     rw [Bool.eq_false_iff.2 hb, Bool.false_and] at hall
     rw [hall]
     by_cases h1 : (s.getD p 0).toNat < 48
     ·rw [if_pos (by rw [decide_eq_true_eq]; omega)] at e
      exact ⟨_, e, rfl⟩
     ·rw [if_neg (by rw [decide_eq_true_eq]; omega), if_pos (by rw [decide_eq_true_eq]; omega)] at e
      exact ⟨_, e, rfl⟩
   ·right
    have hh : 128 ≤ (Utf8.decode { data := { toList := s } } p).1 := decode_hi hlt (by omega)
    have hb : isd (s.getD p 0) = false := by rw [Bool.eq_false_iff]; exact fun h => by have := z4w.1 h; omega
    rw [hb, Bool.false_and] at hall
    rw [hall]
    rw [if_neg (by rw [decide_eq_true_eq]; omega), if_pos (by rw [decide_eq_true_eq]; omega)] at e
    exact ⟨_, e, rfl⟩
  ·right
   refine ⟨_, by rw [S69_7_eq]; exact if_neg hlt, ?_⟩
   rw [hall, List.drop_of_length_le (by omega)]
   rfl) ((t, (), ()), ((s, 0), ())) ⟨0, rfl, by omega, by rw [List.drop_zero]⟩
 exact h1
theorem numOf_snoc (l : List UInt8) (c : UInt8) : numOf (l ++ [c]) = numOf l * 10 + (c.toNat - 48) := by
 simp [numOf, List.foldl_append]
theorem numOf_take {s : List UInt8} {i : Nat} (h : i < s.length) : numOf (s.take (i + 1)) = numOf (s.take i) * 10 + ((s.getD i 0).toNat - 48) := by
 rw [← z4C (d := (0 : UInt8)) h, numOf_snoc]
theorem fold_lt : ∀ (l : List UInt8) (n : Nat), l.all isd = true → l.foldl (fun n c => n * 10 + (c.toNat - 48)) n < (n + 1) * 10 ^ l.length
 | [], n, _ => by simp
 | c :: r, n, h => by
  rw [List.all_cons, Bool.and_eq_true] at h
  have hc := z4w.1 h.1
  have h1 := fold_lt r (n * 10 + (c.toNat - 48)) h.2
  rw [List.foldl_cons, List.length_cons, Nat.pow_succ]
  have h2 : (n * 10 + (c.toNat - 48) + 1) * 10 ^ r.length ≤ ((n + 1) * 10) * 10 ^ r.length := Nat.mul_le_mul_right _ (by omega)
  rw [Nat.mul_assoc, Nat.mul_comm 10] at h2
  exact Nat.lt_of_lt_of_le h1 h2
theorem numOf_lt {l : List UInt8} (h : l.all isd = true) : numOf l < 10 ^ l.length := by
 have := fold_lt l 0 h
 simpa [numOf] using this
theorem fold_ge : ∀ (l : List UInt8) (n : Nat), n * 10 ^ l.length ≤ l.foldl (fun n c => n * 10 + (c.toNat - 48)) n
 | [], n => by simp
 | c :: r, n => by
  have h1 := fold_ge r (n * 10 + (c.toNat - 48))
  rw [List.foldl_cons, List.length_cons, Nat.pow_succ]
  have h2 : (n * 10) * 10 ^ r.length ≤ (n * 10 + (c.toNat - 48)) * 10 ^ r.length := Nat.mul_le_mul_right _ (by omega)
  rw [Nat.mul_assoc, Nat.mul_comm 10] at h2
  exact Nat.le_trans h2 h1
theorem numOf_ge {c : UInt8} {r : List UInt8} (h : 49 ≤ c.toNat) : 10 ^ r.length ≤ numOf (c :: r) := by
 have h1 := fold_ge r (c.toNat - 48)
 have h2 : numOf (c :: r) = r.foldl (fun n c => n * 10 + (c.toNat - 48)) (c.toNat - 48) := by simp [numOf]
 rw [h2]
 have h3 : 1 * 10 ^ r.length ≤ (c.toNat - 48) * 10 ^ r.length := Nat.mul_le_mul_right _ (by omega)
 omega
def nm (s : List UInt8) : Bool := digs s && !(s == []) && (s == [48] || !(s.getD 0 0 == 48))
theorem L116_val (c : UInt8) : L116 ((c.toNat : Int), ()) = some ((isd c, ()), ()) := by
 refine (F116_eq _).trans ?_
 unfold isd
 by_cases h : 48 ≤ c.toNat
 ·rw [if_pos (by simp; omega), show Nat.ble 48 c.toNat = true by simpa using h, Bool.true_and]
  congr 3
  rw [Bool.eq_iff_iff, decide_eq_true_eq, Nat.ble_eq]
  omega
 ·rw [if_neg (by simp; omega), show Nat.ble 48 c.toNat = false by rw [Bool.eq_false_iff]; simpa using h, Bool.false_and]
theorem Lg91_5_val {s : List UInt8} (hl : s.length ≤ 15) : Lg91_5 ((s, 0, 0, ()), ()) = some (if digs s = true then .inr (((numOf s : Int), ()), ()) else .inl ((0, false, ()), ())) := by
 obtain ⟨z, h1, rfl⟩ := z0K (f := S91_5 L116) (fun x => s.length - x.1.2.2.1.toNat)
  (fun x => ∃ i : Nat, x = ((s, (numOf (s.take i) : Int), (i : Int), ()), ()) ∧ i ≤ s.length ∧ (s.take i).all isd = true ∧ s.all isd = (s.drop i).all isd)
  (fun z => z = (if digs s = true then .inr (((numOf s : Int), ()), ()) else .inl ((0, false, ()), ()))) (by
  rintro x ⟨i, rfl, hi, hD, hall⟩
  rw [S91_5_eq, z6t]
  by_cases hlt : i < s.length
  ·rw [all_drop hlt] at hall
   rw [if_pos (decide_eq_true (by omega)), if_pos (by omega), if_pos (by omega), Int.toNat_natCast, L116_val]
   simp only [Option.bind_some]
   by_cases hb : isd (s.getD i 0) = true
   ·left
    have hc := z4w.1 hb
    have hlt8 := numOf_lt hD
    rw [List.length_take, Nat.min_eq_left hi] at hlt8
    have hp : 10 ^ i ≤ 10 ^ 14 := Nat.pow_le_pow_right (by decide) (by omega)
    have e1 : IntKind.u8.wrap (((s.getD i 0).toNat : Int) - 48) = (((s.getD i 0).toNat - 48 : Nat) : Int) := by rw [w8 (by omega) (by omega)]; omega
    have e3 : IntKind.i64.wrap (10 * (numOf (s.take i) : Int)) = 10 * (numOf (s.take i) : Int) := wi (by omega) (by omega)
    have e4 : IntKind.i64.wrap (10 * (numOf (s.take i) : Int) + (((s.getD i 0).toNat - 48 : Nat) : Int)) = (numOf (s.take (i + 1)) : Int) := by
     rw [numOf_take hlt, wi (by omega) (by omega)]; omega
    have e5 : IntKind.i64.wrap ((((s.getD i 0).toNat - 48 : Nat) : Int)) = (((s.getD i 0).toNat - 48 : Nat) : Int) := wi (by omega) (by omega)
    have e6 : IntKind.i64.wrap ((i : Int) + 1) = ((i + 1 : Nat) : Int) := by rw [wi (by omega) (by omega)]; omega
    rw [if_neg (by rw [hb]; decide), if_pos (by omega), if_pos (by omega), e1, e3, e5, e4, e6]
    refine ⟨_, rfl, ⟨i + 1, rfl, by omega, ?_, by rw [hall, hb, Bool.true_and]⟩, by simp only [Int.toNat_natCast]; omega⟩
    rw [← z4C (d := (0 : UInt8)) hlt, List.all_append, hD, Bool.true_and, List.all_cons, hb]
    rfl
   ·right
    rw [Bool.eq_false_iff.2 hb, Bool.false_and] at hall
    rw [hall, if_pos (by simpa using hb)]
    exact ⟨_, rfl, rfl⟩
  ·right
   refine ⟨_, if_neg (by simp; omega), ?_⟩
   rw [hall, List.drop_of_length_le (by omega), List.take_of_length_le (by omega)]
   rfl) ((s, ((numOf (s.take 0) : Nat) : Int), ((0 : Nat) : Int), ()), ()) ⟨0, rfl, by omega, by simp, by rw [List.drop_zero]⟩
 exact h1
theorem beq_nat (c : UInt8) {k : Nat} (hk : k < 256) : (((c.toNat : Int)) == (k : Int)) = (c == UInt8.ofNat k) := by
 rw [Bool.eq_iff_iff, beq_iff_eq, beq_iff_eq]
 constructor
 ·intro h
  exact UInt8.toNat_inj.1 (by rw [UInt8.toNat_ofNat']; omega)
 ·rintro rfl
  rw [UInt8.toNat_ofNat']
  omega
theorem beq48 (c : UInt8) : (((c.toNat : Int)) == 48) = (c == 48) := beq_nat c (k := 48) (by decide)
theorem beq117 (c : UInt8) : (((c.toNat : Int)) == 117) = (c == 117) := beq_nat c (k := 117) (by decide)
theorem beq105 (c : UInt8) : (((c.toNat : Int)) == 105) = (c == 105) := beq_nat c (k := 105) (by decide)
theorem one48 {s : List UInt8} (h0 : s ≠ []) (h1 : ¬ 1 < s.length) : (s == [48] || !(s.getD 0 0 == 48)) = true := by
 cases s with
 | nil => exact absurd rfl h0
 | cons c s =>
  have : s = [] := List.eq_nil_of_length_eq_zero (by rw [List.length_cons] at h1; omega)
  subst this
  by_cases h : c = 48
  ·subst h; rfl
  ·have : (c == 48) = false := by simpa using h
   show ([c] == [48] || !(c == 48)) = true
   rw [this, Bool.not_false, Bool.or_true]
theorem L91_val (s : List UInt8) : L91 (s, ()) = some ((if nm s = true ∧ s.length ≤ 15 then ((numOf s : Int), true, ()) else (0, false, ())), ()) := by
 show F91 Lg91_5 (s, ()) = _
 rw [F91_eq]
 unfold nm
 by_cases h0 : s = []
 ·subst h0
  rw [if_pos (by rfl), if_neg (by simp)]
 ·rw [if_neg (by simpa using h0)]
  have e1 : (s == []) = false := by simpa using h0
  by_cases hl : s.length ≤ 15
  ·rw [if_neg (by simp; omega)]
   have hg : Lg91_5 ((s, 0, 0, ()), ()) = _ := Lg91_5_val hl
   have hl0 : 0 < s.length := List.length_pos_iff.2 h0
   by_cases h1 : 1 < s.length
   ·rw [if_pos (by simp; omega), if_pos (by omega), beq48]
    have e2 : (s == [48]) = false := by
     rw [beq_eq_false_iff_ne]; rintro rfl; simp at h1
    rw [e1, e2]
    by_cases h2 : (s.getD 0 0 == 48) = true
    ·rw [if_pos h2, if_neg (by rw [h2]; simp)]
    ·rw [if_neg h2, hg, Bool.eq_false_iff.2 h2]
     by_cases h3 : digs s = true
     ·rw [if_pos h3, if_pos (by simp [h3, hl])]; rfl
     ·rw [if_neg h3, if_neg (by simp [h3])]; rfl
   ·rw [if_neg (by simp; omega), one48 h0 h1, hg, e1]
    by_cases h3 : digs s = true
    ·rw [if_pos h3, if_pos (by simp [h3, hl])]; rfl
    ·rw [if_neg h3, if_neg (by simp [h3])]; rfl
  ·rw [if_pos (by simp; omega), if_neg (fun h => hl h.2)]
def wd (s : List UInt8) : Prop := 2 ≤ s.length ∧ (s.getD 0 0 = 117 ∨ s.getD 0 0 = 105) ∧ nm (s.drop 1) = true ∧ numOf (s.drop 1) ≤ 64 ∧ (0 < numOf (s.drop 1) ∨ s.getD 0 0 = 117)
instance (s : List UInt8) : Decidable (wd s) := by unfold wd; infer_instance
def tyb (s : List UInt8) : Option Nat :=
 if s = [102, 51, 50] then some 32 else if s = [102, 54, 52] then some 64 else if s = [112, 116, 114] then some 64 else if wd s then some (numOf (s.drop 1)) else none
theorem z3w {s : List UInt8} {n : Nat} (h : tyb s = some n) : n ≤ 64 := by
 unfold tyb at h
 split at h
 ·injection h with h; omega
 ·split at h
  ·injection h with h; omega
  ·split at h
   ·injection h with h; omega
   ·split at h
    ·rename_i hw
     injection h with h
     have := hw.2.2.2.1
     omega
    ·cases h
theorem nm_big {t : List UInt8} (h : nm t = true) (hl : 2 < t.length) : 64 < numOf t := by
 unfold nm at h
 rw [Bool.and_eq_true, Bool.and_eq_true, Bool.or_eq_true] at h
 obtain ⟨⟨h1, _⟩, h3⟩ := h
 cases t with
 | nil => simp at hl
 | cons c r =>
  rw [z6t, List.all_cons, Bool.and_eq_true] at h1
  have hc := z4w.1 h1.1
  have h4 : c ≠ 48 := by
   rcases h3 with h3 | h3
   ·rw [beq_iff_eq] at h3
    rw [h3] at hl
    simp at hl
   ·simpa using h3
  have h5 : c.toNat ≠ 48 := fun q => h4 (UInt8.toNat_inj.1 q)
  have h6 := numOf_ge (c := c) (r := r) (by omega)
  have h7 : 10 ^ 2 ≤ 10 ^ r.length := Nat.pow_le_pow_right (by decide) (by simp at hl; omega)
  omega
theorem width_core (t : List UInt8) (u : Bool) : ∃ n : Int, ((L91 (t, ())).bind fun y =>
  if y.1.2.1 = true then
   if decide (y.1.1 ≤ 64) = true then
    if decide (y.1.1 > 0) = true then some ((y.1.1, true, ()), ())
    else some ((y.1.1, u, ()), ())
   else some ((y.1.1, false, ()), ())
  else some ((y.1.1, false, ()), ()) : Option rs53.den) = some ((n, decide (nm t = true ∧ numOf t ≤ 64 ∧ (0 < numOf t ∨ u = true)), ()), ()) ∧ (nm t = true ∧ numOf t ≤ 64 ∧ (0 < numOf t ∨ u = true) → n = (numOf t : Int)) := by
 rw [L91_val t]
 simp only [Option.bind_some]
 by_cases hn : nm t = true ∧ t.length ≤ 15
 ·rw [if_pos hn]
  simp only [if_true]
  by_cases h64 : numOf t ≤ 64
  ·have q : decide ((numOf t : Int) ≤ 64) = true := by rw [decide_eq_true_eq]; omega
   rw [if_pos q]
   by_cases h0 : 0 < numOf t
   ·have q : decide ((numOf t : Int) > 0) = true := by rw [decide_eq_true_eq]; omega
    rw [if_pos q]
    exact ⟨_, by rw [decide_eq_true (show nm t = true ∧ numOf t ≤ 64 ∧ (0 < numOf t ∨ u = true) from ⟨hn.1, h64, .inl h0⟩)], fun _ => rfl⟩
   ·have q : ¬ decide ((numOf t : Int) > 0) = true := by rw [decide_eq_true_eq]; omega
    rw [if_neg q]
    refine ⟨_, ?_, fun _ => rfl⟩
    cases u with
    | true => rw [decide_eq_true (show nm t = true ∧ numOf t ≤ 64 ∧ (0 < numOf t ∨ true = true) from ⟨hn.1, h64, .inr rfl⟩)]
    | false => rw [decide_eq_false (show ¬ (nm t = true ∧ numOf t ≤ 64 ∧ (0 < numOf t ∨ false = true)) from fun h => by rcases h.2.2 with h | h; exact h0 h; cases h)]
  ·have q : ¬ decide ((numOf t : Int) ≤ 64) = true := by rw [decide_eq_true_eq]; omega
   rw [if_neg q]
   exact ⟨_, by rw [decide_eq_false (show ¬ (nm t = true ∧ numOf t ≤ 64 ∧ (0 < numOf t ∨ u = true)) from fun h => h64 h.2.1)], fun _ => rfl⟩
 ·rw [if_neg hn]
  have hno : ¬ (nm t = true ∧ numOf t ≤ 64 ∧ (0 < numOf t ∨ u = true)) := by
   rintro ⟨h1, h2, _⟩
   refine hn ⟨h1, ?_⟩
   by_cases hl : 2 < t.length
   ·have := nm_big h1 hl
    omega
   ·omega
  exact ⟨0, by rw [decide_eq_false hno]; rfl, fun h => absurd h hno⟩
theorem L53_val (s : List UInt8) : (wd s → L53 (s, ()) = some (((numOf (s.drop 1) : Int), true, ()), ())) ∧ (¬ wd s → ∃ n, L53 (s, ()) = some ((n, false, ()), ())) := by
 have e : L53 (s, ()) = _ := F53_eq L91 s
 by_cases h2 : 2 ≤ s.length
 ·have g0 : (0 : Int) < (s.length : Int) := by omega
  have g1 : (1 : Int) ≤ (s.length : Int) := by omega
  rw [if_neg (by simp; omega), beq117, beq105] at e
  simp only [if_pos g0, if_pos g1, if_pos (Int.le_refl _)] at e
  obtain ⟨n, k1, k2⟩ := width_core (s.drop 1) (s.getD 0 0 == 117)
  rw [k1] at e
  by_cases hu : s.getD 0 0 = 117
  ·have hu' : (!(s.getD 0 0 == 117)) = false := by rw [hu]; rfl
   have hu2 : (s.getD 0 0 == 117) = true := by rw [hu]; rfl
   rw [hu', if_neg (by decide)] at e
   rw [hu2] at e k2
   refine ⟨fun h => ?_, fun h => ⟨n, ?_⟩⟩
   ·have q := And.intro h.2.2.1 (And.intro h.2.2.2.1 (Or.inr (a := 0 < numOf (s.drop 1)) rfl : 0 < numOf (s.drop 1) ∨ true = true))
    rw [e, k2 q, decide_eq_true q]
   ·rw [e, decide_eq_false fun q => h ⟨h2, .inl hu, q.1, q.2.1, .inr hu⟩]
  ·have hu' : (!(s.getD 0 0 == 117)) = true := by rw [Bool.not_eq_true', beq_eq_false_iff_ne]; exact hu
   have hu2 : (s.getD 0 0 == 117) = false := by rw [beq_eq_false_iff_ne]; exact hu
   rw [hu', if_pos rfl] at e
   rw [hu2] at e k2
   by_cases hi : s.getD 0 0 = 105
   ·have hi' : (!(s.getD 0 0 == 105)) = false := by rw [hi]; rfl
    rw [hi', if_neg (by decide)] at e
    refine ⟨fun h => ?_, fun h => ⟨n, ?_⟩⟩
    ·have q : nm (s.drop 1) = true ∧ numOf (s.drop 1) ≤ 64 ∧ (0 < numOf (s.drop 1) ∨ false = true) := ⟨h.2.2.1, h.2.2.2.1, .inl (by rcases h.2.2.2.2 with h | h; exact h; exact absurd h hu)⟩
     rw [e, k2 q, decide_eq_true q]
    ·rw [e, decide_eq_false fun q => h ⟨h2, .inr hi, q.1, q.2.1, .inl (by rcases q.2.2 with h | h; exact h; cases h)⟩]
   ·have hi' : (!(s.getD 0 0 == 105)) = true := by rw [Bool.not_eq_true', beq_eq_false_iff_ne]; exact hi
    rw [hi', if_pos rfl] at e
    exact ⟨fun h => absurd h.2.1 (by rintro (h | h) <;> contradiction), fun _ => ⟨_, e⟩⟩
 ·rw [if_pos (by simp; omega)] at e
  exact ⟨fun h => absurd h.1 h2, fun _ => ⟨_, e⟩⟩
def szA : Option Nat → Int × Int × Unit
 | some n => (((n + 7) / 8 : Nat), 0, ())
 | none => (0, 12, ())
theorem size_form {n : Nat} (h : n ≤ 64) : IntKind.i64.wrap ((IntKind.i64.wrap ((n : Int) + 7)).tdiv 8) = (((n + 7) / 8 : Nat) : Int) := by
 rw [wi (n := (n : Int) + 7) (by omega) (by omega), Int.tdiv_eq_ediv_of_nonneg (by omega), wi (by omega) (by omega)]
 omega
theorem L15_val (s : List UInt8) : L15 (s, ()) = some (szA (tyb s), ()) := by
 refine (F15_eq L53 s).trans ?_
 unfold tyb
 by_cases h1 : s = [102, 51, 50]
 ·rw [if_pos (by simpa using h1), if_pos h1]; rfl
 ·rw [if_neg (by simpa using h1), if_neg h1]
  by_cases h2 : s = [102, 54, 52]
  ·rw [if_pos (by simpa using h2), if_pos (by simpa using h2), if_pos h2]; rfl
  ·rw [if_neg (by simpa using h2), if_neg h2]
   by_cases h3 : s = [112, 116, 114]
   ·rw [if_pos (by simpa using h3), if_pos h3]; rfl
   ·rw [if_neg (by simpa using h3), if_neg h3]
    obtain ⟨k1, k2⟩ := L53_val s
    by_cases hw : wd s
    ·rw [if_pos hw, k1 hw]
     show some _ = _
     rw [size_form hw.2.2.2.1]
     rfl
    ·obtain ⟨n, k2⟩ := k2 hw
     rw [if_neg hw, k2]
     rfl
theorem L37_val {s : List UInt8} {n : Nat} (h : tyb s = some n) : L37 (s, ()) = some (((n : Int), ()), ()) := by
 refine (F37_eq L53 s).trans ?_
 unfold tyb at h
 by_cases h1 : s = [102, 51, 50]
 ·rw [if_pos h1] at h
  injection h with h
  rw [if_pos (by simpa using h1), ← h]; rfl
 ·rw [if_neg h1] at h
  rw [if_neg (by simpa using h1)]
  by_cases h2 : s = [102, 54, 52]
  ·rw [if_pos h2] at h
   injection h with h
   rw [if_pos (by simpa using h2), ← h]; rfl
  ·rw [if_neg h2] at h
   rw [if_neg (by simpa using h2)]
   by_cases h3 : s = [112, 116, 114]
   ·rw [if_pos h3] at h
    injection h with h
    rw [if_pos (by simpa using h3), ← h]; rfl
   ·rw [if_neg h3] at h
    rw [if_neg (by simpa using h3)]
    by_cases hw : wd s
    ·rw [if_pos hw] at h
     injection h with h
     rw [(L53_val s).1 hw, ← h]; rfl
    ·rw [if_neg hw] at h
     cases h
theorem L98_val : L98 () = some (((), ()), [([102, 51, 50], 32), ([102, 54, 52], 64), ([112, 116, 114], 64)], ()) := F98_eq
theorem L99_val {t : List UInt8} (h : digs t = true) (h0 : 0 < t.length) (h1 : t.length ≤ 1000) : L99 (t, ()) = some (if numOf t < 9223372036854775808 then (((numOf t : Int), true, ()), ()) else ((9223372036854775807, false, ()), ())) := by
 show F99 (t, ()) = _
 unfold F99
 rw [if_pos (by simp [h, Nat.blt]; omega)]
 split <;> rfl
theorem look_named (s : List UInt8) : lookM Ty.str (Ty.int IntKind.i64) [([102, 51, 50], (32 : Int)), ([102, 54, 52], 64), ([112, 116, 114], 64)] s = (if s = [102, 51, 50] then some 32 else if s = [102, 54, 52] then some 64 else if s = [112, 116, 114] then some 64 else none) := by
 by_cases h1 : s = [102, 51, 50]
 ·subst h1; rfl
 ·by_cases h2 : s = [102, 54, 52]
  ·subst h2; rfl
  ·by_cases h3 : s = [112, 116, 114]
   ·subst h3; rfl
   ·rw [if_neg h1, if_neg h2, if_neg h3]
    have key : ∀ a : List UInt8, s ≠ a → ¬ Ty.str.keq s a = true := fun a h q => h (by simpa [Ty.keq] using q)
    simp only [lookM]
    rw [if_neg (key _ h1), if_neg (key _ h2), if_neg (key _ h3)]
end Go.Proofs.Rf
namespace Go.Proofs.Rf
open Go Go.RowKit
theorem L99_bits {t : List UInt8} (h : digs t = true) (h0 : 0 < t.length) (h1 : t.length ≤ 1000) : ∃ n : Int, ((L99 (t, ())).bind fun y =>
  if y.1.2.1 = true then some ((y.1.1, decide (y.1.1 ≤ 64), ()), ()) else some ((y.1.1, false, ()), ()) : Option rs69.den) = some ((n, decide (numOf t ≤ 64), ()), ()) ∧ (numOf t ≤ 64 → n = (numOf t : Int)) := by
 rw [L99_val h h0 h1]
 by_cases hl : numOf t < 9223372036854775808
 ·rw [if_pos hl]
  refine ⟨(numOf t : Int), ?_, fun _ => rfl⟩
  show some (((numOf t : Int), decide ((numOf t : Int) ≤ 64), ()), ()) = _
  congr 4
  rw [decide_eq_decide]
  omega
 ·rw [if_neg hl]
  refine ⟨9223372036854775807, ?_, fun h => by omega⟩
  rw [decide_eq_false (by omega)]
  rfl
theorem L69_core (s : List UInt8) (hl : s.length ≤ 1000) (h2 : 2 ≤ s.length) (hb : s.getD 1 0 = 48 → s = [117, 48]) :
  ∃ n : Int, ((Lg69_7 ((s, (), ()), ((s.drop 1, 0), ()))).bind fun y => Sum.elim (fun y => some ((y.1.1, y.1.2.1, ()), ())) (fun z =>
    if 1 ≤ (z.1.1.length : Int) then
     (L99 (List.drop 1 z.1.1, ())).bind fun y => if y.1.2.1 = true then some ((y.1.1, decide (y.1.1 ≤ 64), ()), ()) else some ((y.1.1, false, ()), ())
    else none) y : Option rs69.den) = some ((n, decide (nm (s.drop 1) = true ∧ numOf (s.drop 1) ≤ 64), ()), ()) ∧ (nm (s.drop 1) = true ∧ numOf (s.drop 1) ≤ 64 → n = (numOf (s.drop 1) : Int)) := by
 rw [Lg69_7_val]
 simp only [Option.bind_some]
 have hne : s.drop 1 ≠ [] := by
  intro h
  have := congrArg List.length h
  simp at this
  omega
 have hz : (s.drop 1 == [48] || !((s.drop 1).getD 0 0 == 48)) = true := by
  have e : (s.drop 1).getD 0 0 = s.getD 1 0 := by simp [List.getD]
  rw [e]
  by_cases h : s.getD 1 0 = 48
  ·rw [hb h]; rfl
  ·rw [show (s.getD 1 0 == 48) = false by rw [beq_eq_false_iff_ne]; exact h, Bool.not_false, Bool.or_true]
 by_cases hd : digs (s.drop 1) = true
 ·rw [if_pos hd]
  simp only [Sum.elim_inr]
  have g1 : (1 : Int) ≤ (s.length : Int) := by omega
  rw [if_pos g1]
  obtain ⟨n, k1, k2⟩ := L99_bits hd (by simp; omega) (by simp; omega)
  have hn : nm (s.drop 1) = true := by
   unfold nm
   rw [hd, hz]
   simpa using hne
  refine ⟨n, k1.trans ?_, fun h => k2 h.2⟩
  congr 4
  rw [decide_eq_decide]
  exact ⟨fun h => ⟨hn, h⟩, fun h => h.2⟩
 ·rw [if_neg hd]
  have hn : ¬ (nm (s.drop 1) = true ∧ numOf (s.drop 1) ≤ 64) := by
   rintro ⟨h, _⟩
   unfold nm at h
   rw [Bool.and_eq_true, Bool.and_eq_true] at h
   exact hd h.1.1
  exact ⟨0, by rw [decide_eq_false hn]; rfl, fun h => absurd h hn⟩
theorem wd_iff (s : List UInt8) : wd s ↔ 2 ≤ s.length ∧ (s.getD 0 0 = 117 ∨ s.getD 0 0 = 105) ∧ (s.getD 1 0 = 48 → s = [117, 48]) ∧ nm (s.drop 1) = true ∧ numOf (s.drop 1) ≤ 64 := by
 have key : 2 ≤ s.length → nm (s.drop 1) = true → s.getD 1 0 = 48 → s.drop 1 = [48] := by
  intro h2 hn h
  unfold nm at hn
  rw [Bool.and_eq_true, Bool.or_eq_true] at hn
  rcases hn.2 with h3 | h3
  ·simpa using h3
  ·have e : (s.drop 1).getD 0 0 = s.getD 1 0 := by simp [List.getD]
   rw [e, h] at h3
   simp at h3
 have hs : 2 ≤ s.length → s.drop 1 = [48] → s = [s.getD 0 0, 48] := by
  intro h2 h
  cases s with
  | nil => simp at h2
  | cons c r =>
   simp only [List.drop_succ_cons, List.drop_zero] at h
   rw [h]
   rfl
 constructor
 ·rintro ⟨h1, h2, h3, h4, h5⟩
  refine ⟨h1, h2, fun h => ?_, h3, h4⟩
  have hk := key h1 h3 h
  have hss := hs h1 hk
  rcases h5 with h5 | h5
  ·rw [hk] at h5
   exact absurd h5 (by decide)
  ·rw [hss, h5]
 ·rintro ⟨h1, h2, h3, h4, h5⟩
  refine ⟨h1, h2, h4, h5, ?_⟩
  by_cases h : s.getD 1 0 = 48
  ·rw [h3 h]; exact .inr rfl
  ·refine .inl ?_
   have hn := h4
   unfold nm at hn
   rw [Bool.and_eq_true, Bool.and_eq_true] at hn
   cases s with
   | nil => simp at h1
   | cons c r =>
    cases r with
    | nil => simp at h1
    | cons d r =>
     simp only [List.drop_succ_cons, List.drop_zero] at hn ⊢
     rw [z6t, List.all_cons, Bool.and_eq_true] at hn
     have hd := z4w.1 hn.1.1.1
     have hd' : d.toNat ≠ 48 := fun q => h (UInt8.toNat_inj.1 q)
     have := numOf_ge (c := d) (r := r) (by omega)
     have h10 : 0 < 10 ^ r.length := Nat.pow_pos (by decide)
     omega
theorem L69_val (s : List UInt8) (hl : s.length ≤ 1000) : (∀ n, tyb s = some n → L69 (s, ()) = some (((n : Int), true, ()), ())) ∧ (tyb s = none → ∃ n, L69 (s, ()) = some ((n, false, ()), ())) := by
 have e : L69 (s, ()) = _ := F69_eq L98 L99 Lg69_7 s
 rw [L98_val] at e
 simp only [Option.bind_some] at e
 rw [look_named s] at e
 unfold tyb
 by_cases h1 : s = [102, 51, 50]
 ·rw [if_pos h1] at e ⊢
  exact ⟨fun n h => by injection h with h; rw [← h]; exact e, fun h => by cases h⟩
 ·rw [if_neg h1] at e ⊢
  by_cases h2 : s = [102, 54, 52]
  ·rw [if_pos h2] at e ⊢
   exact ⟨fun n h => by injection h with h; rw [← h]; exact e, fun h => by cases h⟩
  ·rw [if_neg h2] at e ⊢
   by_cases h3 : s = [112, 116, 114]
   ·rw [if_pos h3] at e ⊢
    exact ⟨fun n h => by injection h with h; rw [← h]; exact e, fun h => by cases h⟩
   ·rw [if_neg h3] at e ⊢
    rw [if_neg (show ¬ ((none : Option Int).isSome = true) by decide)] at e
    by_cases hlen : 2 ≤ s.length
    ·have g0 : (0 : Int) < (s.length : Int) := by omega
     have g1 : (1 : Int) ≤ (s.length : Int) := by omega
     have g2 : (1 : Int) < (s.length : Int) := by omega
     rw [if_neg (by simp; omega)] at e
     simp only [if_pos g0, if_pos g1, if_pos g2, if_pos (Int.le_refl _)] at e
     rw [beq117, beq105, beq48] at e
     by_cases hb : s.getD 1 0 = 48 → s = [117, 48]
     ·obtain ⟨n, k1, k2⟩ := L69_core s hl hlen hb
      have e2 : L69 (s, ()) = if (s.getD 0 0 = 117 ∨ s.getD 0 0 = 105) then some ((n, decide (nm (s.drop 1) = true ∧ numOf (s.drop 1) ≤ 64), ()), ()) else some ((0, false, ()), ()) := by
       rw [e, ← k1]
       have hb2 : ∀ x y : Option rs69.den, (if (s.getD 1 0 == 48) = true then (if (!(s == [117, 48])) = true then x else y) else y) = y := by
        intro x y
        by_cases q : s.getD 1 0 = 48
        ·rw [if_pos (by rw [q]; rfl), if_neg (by rw [hb q]; decide)]
        ·rw [if_neg (by rw [beq_iff_eq]; exact q)]
       rw [hb2]
       by_cases hu : s.getD 0 0 = 117
       ·rw [if_neg (by rw [hu]; decide), if_pos (.inl hu)]
       ·rw [if_pos (by rw [Bool.not_eq_true', beq_eq_false_iff_ne]; exact hu)]
        by_cases hi : s.getD 0 0 = 105
        ·rw [if_neg (by rw [hi]; decide), if_pos (.inr hi)]
        ·rw [if_pos (by rw [Bool.not_eq_true', beq_eq_false_iff_ne]; exact hi), if_neg (by rintro (h | h) <;> contradiction)]
      rw [e2]
      by_cases hw : wd s
      ·have hw' := (wd_iff s).1 hw
       rw [if_pos hw, if_pos hw'.2.1, k2 hw'.2.2.2, decide_eq_true hw'.2.2.2]
       exact ⟨fun n h => (by injection h with h; rw [← h]), fun h => (by cases h)⟩
      ·rw [if_neg hw]
       refine ⟨fun n h => (by cases h), fun _ => ?_⟩
       by_cases hu : s.getD 0 0 = 117 ∨ s.getD 0 0 = 105
       ·rw [if_pos hu, decide_eq_false fun q => hw ((wd_iff s).2 ⟨hlen, hu, hb, q.1, q.2⟩)]
        exact ⟨_, rfl⟩
       ·rw [if_neg hu]
        exact ⟨_, rfl⟩
     ·have hb1 : s.getD 1 0 = 48 := Decidable.byContradiction fun q => hb fun h => absurd h q
      have hb2 : ¬ s = [117, 48] := fun q => hb fun _ => q
      have hw : ¬ wd s := fun h => hb ((wd_iff s).1 h).2.2.1
      rw [if_neg hw]
      refine ⟨fun n h => (by cases h), fun _ => ⟨0, ?_⟩⟩
      rw [e]
      have q1 : (s.getD 1 0 == 48) = true := by rw [hb1]; rfl
      have q2 : (!(s == [117, 48])) = true := by rw [Bool.not_eq_true', beq_eq_false_iff_ne]; exact hb2
      rw [q1, q2]
      simp only [if_true]
      split
      ·split <;> rfl
      ·rfl
    ·have hw : ¬ wd s := fun h => hlen h.1
     rw [if_neg hw]
     rw [if_pos (by simp; omega)] at e
     exact ⟨fun n h => (by cases h), fun _ => ⟨_, e⟩⟩
theorem L28_val (s : List UInt8) (hl : s.length ≤ 1000) : L28 (s, ()) = some (szA (tyb s), ()) := by
 refine (F28_eq L69 s).trans ?_
 obtain ⟨k1, k2⟩ := L69_val s hl
 cases h : tyb s with
 | none =>
  obtain ⟨n, k2⟩ := k2 h
  rw [k2]
  rfl
 | some n =>
  rw [k1 n h]
  show some _ = _
  rw [size_form (z3w h)]
  rfl
def mk (n : Nat) : Int := if n = 64 then 18446744073709551615 else IntKind.u64.wrap (IntKind.u64.wrap (1 * 2 ^ min n 64) - 1)
theorem L94_val {s : List UInt8} {n : Nat} (h : tyb s = some n) (hl : s.length ≤ 1000) : L94 (s, ()) = some ((mk n, ()), ()) := by
 refine (F94_eq L69 s).trans ?_
 rw [(L69_val s hl).1 n h]
 simp only [Option.bind_some]
 unfold mk
 by_cases h64 : n = 64
 ·subst h64
  rfl
 ·have q1 : ¬ (((n : Int) == 64) = true) := by rw [beq_iff_eq]; omega
  have q2 : ¬ ((n : Int) < 0) := by omega
  refine (if_neg q1).trans ((if_neg q2).trans ?_)
  rw [if_neg h64]
  rfl
theorem L36_val {n : Nat} (h : n ≤ 64) : L36 ((n : Int), ()) = some ((mk n, ()), ()) := by
 refine (F36_eq n).trans ?_
 unfold mk
 by_cases h64 : n = 64
 ·subst h64
  rfl
 ·rw [if_neg (by rw [decide_eq_true_eq]; omega), if_neg (by omega), if_neg h64]
  rfl
def alg (n : Nat) : Nat := if n ≤ 1 then 1 else if n ≤ 2 then 2 else if n ≤ 4 then 4 else 8
theorem Lg70_2_val : ∀ n : Nat, n ≤ 8 → Lg70_2 (((n : Int), 1, ()), ()) = some (((alg n : Int), ()), ())
 | 0, _ => z0C 10 (by kernel_rfl)
 | 1, _ => z0C 10 (by kernel_rfl)
 | 2, _ => z0C 10 (by kernel_rfl)
 | 3, _ => z0C 10 (by kernel_rfl)
 | 4, _ => z0C 10 (by kernel_rfl)
 | 5, _ => z0C 10 (by kernel_rfl)
 | 6, _ => z0C 10 (by kernel_rfl)
 | 7, _ => z0C 10 (by kernel_rfl)
 | 8, _ => z0C 10 (by kernel_rfl)
 | n + 9, h => by omega
theorem Lg109_5_val : ∀ n : Nat, n ≤ 8 → Lg109_5 (((n : Int), 1, ()), ()) = some (((alg n : Int), ()), ())
 | 0, _ => z0C 10 (by kernel_rfl)
 | 1, _ => z0C 10 (by kernel_rfl)
 | 2, _ => z0C 10 (by kernel_rfl)
 | 3, _ => z0C 10 (by kernel_rfl)
 | 4, _ => z0C 10 (by kernel_rfl)
 | 5, _ => z0C 10 (by kernel_rfl)
 | 6, _ => z0C 10 (by kernel_rfl)
 | 7, _ => z0C 10 (by kernel_rfl)
 | 8, _ => z0C 10 (by kernel_rfl)
 | n + 9, h => by omega
theorem L70_val {n : Nat} (h : n ≤ 8) : L70 ((n : Int), ()) = some (((alg n : Int), ()), ()) := by
 refine (F70_eq Lg70_2 n).trans ?_
 rw [Lg70_2_val n h]
 rfl
def alA : Option Nat → Int × Int × Unit
 | some n => ((alg ((n + 7) / 8) : Nat), 0, ())
 | none => (0, 12, ())
theorem L109_val (s : List UInt8) : L109 (s, ()) = some (alA (tyb s), ()) := by
 refine (F109_eq L15 Lg109_5 s).trans ?_
 rw [L15_val]
 cases h : tyb s with
 | none => rfl
 | some n =>
  have := z3w h
  show (Lg109_5 (((((n + 7) / 8 : Nat) : Int), 1, ()), ())).bind _ = _
  rw [Lg109_5_val _ (by omega)]
  rfl
theorem L54_val {s : List UInt8} {n : Nat} (h : tyb s = some n) (hl : s.length ≤ 1000) (a : Int × Int) (w : Bool) : L54 (s, a, w, ()) = some (((a, (((n + 7) / 8 : Nat) : Int), (alg ((n + 7) / 8) : Int), w), true, ()), ()) := by
 refine (F54_eq L28 L70 s a.1 a.2 w).trans ?_
 have := z3w h
 rw [L28_val s hl, h]
 show (L70 ((((n + 7) / 8 : Nat) : Int), ())).bind _ = _
 rw [L70_val (by omega)]
 rfl
theorem L54_none {s : List UInt8} (h : tyb s = none) (hl : s.length ≤ 1000) (a : Int × Int) (w : Bool) : L54 (s, a, w, ()) = some (((a, 0, 1, w), false, ()), ()) := by
 refine (F54_eq L28 L70 s a.1 a.2 w).trans ?_
 rw [L28_val s hl, h]
 show (L70 (((0 : Nat) : Int), ())).bind _ = _
 rw [L70_val (by omega)]
 rfl
end Go.Proofs.Rf
namespace Go.Proofs.Rf
open Go Go.RowKit
abbrev Bp := Tl × List Cl
abbrev Br := Tl × List Kl
abbrev dB : Bp := ((0, 0, false, false), [])
abbrev dK : Br := ((0, 0, false, false), [])
abbrev zC : Cl := (0, 0, 0, 0)
abbrev zK : Kl := (0, 0, (0, 0), 0)
def cvC (c : Cl) : Kl := if c.1 = 2 then (2, 0, c.2.2, c.2.1) else (c.1, c.2.1, c.2.2, 0)
def cvB (b : Bp) : Br := ((b.1.1, b.1.2.1, b.1.2.2.1, !b.1.2.2.2), b.2.map cvC)
def cv (m : List Bp) : List Br := m.map cvB
def wfC (c : Cl) : Prop := c = zC ∨ (c.1 = 1 ∧ c.2.2 = (0, 0)) ∨ (c.1 = 2 ∧ 0 ≤ c.2.2.1)
structure Inv (m : List Bp) : Prop where
 len : m.length ≤ 1000
 bl : ∀ b ∈ m, b.2.length ≤ 65536 ∧ ∀ c ∈ b.2, wfC c
theorem z0z (m : List Bp) : (cv m).length = m.length := by simp [cv]
theorem z2e {m : List Bp} {k : Nat} (h : k < m.length) : (cv m).getD k dK = cvB (m.getD k dB) := by
 rw [z1S dK (by rw [z0z]; exact h), z1S dB h]
 simp [cv]
theorem Inv.at {m : List Bp} (h : Inv m) (k : Nat) : (m.getD k dB).2.length ≤ 65536 ∧ ∀ c ∈ (m.getD k dB).2, wfC c := by
 by_cases hk : k < m.length
 ·rw [z1S dB hk]
  exact h.bl _ (List.getElem_mem hk)
 ·rw [List.getD_eq_getElem?_getD, List.getElem?_eq_none (by omega)]
  simp
def fm (n : Nat) (a : Int × Int) : Bool := decide ((a.1 = -1 ∧ a.2 = 0) ∨ (0 ≤ a.1 ∧ a.1 < n ∧ -1099511627776 ≤ a.2 ∧ a.2 ≤ 1099511627776))
def isN (a : Int × Int) : Bool := decide (a.1 = -1 ∧ a.2 = 0)
theorem z3n (x y : Int) : (x == -1 && (y == 0 && true)) = isN (x, y) := by
 unfold isN
 rw [Bool.and_true, Bool.eq_iff_iff, Bool.and_eq_true, beq_iff_eq, beq_iff_eq, decide_eq_true_eq]
theorem z1L : L51 () = some (((-1, 0), ()), ()) := F51_eq
theorem z3Z : L103 () = some (((-1, 0), ()), ()) := F103_eq
theorem z5R (m : List Bp) (u : Int) (a : Int × Int) : L65 ((m, u, ()), a, ()) = some ((fm m.length a, ()), ()) := by
 obtain ⟨x, y⟩ := a
 refine (F65_eq L51 m u x y).trans ?_
 rw [z1L]
 simp only [Option.bind_some]
 rw [z3n]
 unfold fm isN
 simp only
 by_cases h : x = -1 ∧ y = 0
 ·rw [if_pos (decide_eq_true h), decide_eq_true (.inl h)]
 ·rw [if_neg (by rw [decide_eq_true_eq]; exact h)]
  by_cases h1 : 0 ≤ x
  ·rw [if_pos (decide_eq_true h1)]
   by_cases h2 : x < (m.length : Int)
   ·rw [if_pos (decide_eq_true h2)]
    by_cases h3 : -1099511627776 ≤ y
    ·rw [if_pos (decide_eq_true h3)]
     congr 3
     rw [decide_eq_decide]
     exact ⟨fun q => .inr ⟨h1, h2, h3, q⟩, fun q => by rcases q with q | q; exact absurd q h; exact q.2.2.2⟩
    ·rw [if_neg (by rw [decide_eq_true_eq]; exact h3), decide_eq_false (by rintro (q | q); exact h q; exact h3 q.2.2.1)]
   ·rw [if_neg (by rw [decide_eq_true_eq]; exact h2), decide_eq_false (by rintro (q | q); exact h q; exact h2 q.2.1)]
  ·rw [if_neg (by rw [decide_eq_true_eq]; exact h1), decide_eq_false (by rintro (q | q); exact h q; exact h1 q.1)]
theorem z3Y (m : List Bp) (u : Int) (a : Int × Int) : L106 ((cv m, u, ()), a, ()) = some ((fm m.length a, ()), ()) := by
 obtain ⟨x, y⟩ := a
 refine (F106_eq (cv m) u x y).trans ?_
 rw [z0z]
 unfold fm
 simp only
 by_cases h : x = -1
 ·rw [if_pos (by rw [beq_iff_eq]; exact h)]
  congr 3
  rw [Bool.eq_iff_iff, beq_iff_eq, decide_eq_true_eq]
  exact ⟨fun q => .inl ⟨h, q⟩, fun q => by rcases q with q | q; exact q.2; omega⟩
 ·rw [if_neg (by rw [beq_iff_eq]; exact h)]
  by_cases h1 : 0 ≤ x
  ·rw [if_pos (decide_eq_true h1)]
   by_cases h2 : x < (m.length : Int)
   ·rw [if_pos (decide_eq_true h2)]
    by_cases h3 : -1099511627776 ≤ y
    ·rw [if_pos (decide_eq_true h3)]
     congr 3
     rw [decide_eq_decide]
     exact ⟨fun q => .inr ⟨h1, h2, h3, q⟩, fun q => by rcases q with q | q; exact absurd q.1 h; exact q.2.2.2⟩
    ·rw [if_neg (by rw [decide_eq_true_eq]; exact h3), decide_eq_false (by rintro (q | q); exact h q.1; exact h3 q.2.2.1)]
   ·rw [if_neg (by rw [decide_eq_true_eq]; exact h2), decide_eq_false (by rintro (q | q); exact h q.1; exact h2 q.2.1)]
  ·rw [if_neg (by rw [decide_eq_true_eq]; exact h1), decide_eq_false (by rintro (q | q); exact h q.1; exact h1 q.1)]
theorem z6f {n : Nat} {a : Int × Int} (h : fm n a = true) (h1 : isN a = false) : 0 ≤ a.1 ∧ a.1 < n ∧ -1099511627776 ≤ a.2 ∧ a.2 ≤ 1099511627776 := by
 unfold fm at h
 unfold isN at h1
 rw [decide_eq_true_eq] at h
 rw [decide_eq_false_iff_not] at h1
 rcases h with h | h
 ·exact absurd h h1
 ·exact h
theorem z7r {n : Nat} {a : Int × Int} (h : fm n a = true) : a.1 < 0 ↔ isN a = true := by
 unfold fm at h
 unfold isN
 rw [decide_eq_true_eq] at h ⊢
 constructor
 ·intro q
  rcases h with h | h
  ·exact h
  ·omega
 ·intro q
  omega
abbrev blk (m : List Bp) (a : Int × Int) : Bp := m.getD a.1.toNat dB
def c1 (m : List Bp) (a : Int × Int) (n : Int) : Prop := a.1 < 0 ∨ fm m.length a = false ∨ a.2 < 0 ∨ ((blk m a).2.length : Int) < a.2 ∨ ((blk m a).2.length : Int) - a.2 < n
def c3 (m : List Bp) (a : Int × Int) (al : Int) : Prop := 0 < al ∧ (al > (blk m a).1.2.1 ∨ a.2.tmod al ≠ 0)
instance (m : List Bp) (a : Int × Int) (n : Int) : Decidable (c1 m a n) := by unfold c1; infer_instance
instance (m : List Bp) (a : Int × Int) (n : Int) : Decidable (c3 m a n) := by unfold c3; infer_instance
def kd (m : List Bp) (a : Int × Int) (n al : Int) (w : Bool) : Int :=
 if n ≤ 0 then -1 else if c1 m a n then 14 else if (blk m a).1.2.2.2 = true then 15 else if c3 m a al then 16 else if (w && (blk m a).1.2.2.1) = true then 17 else -1
theorem L117_val {m : List Bp} (hI : Inv m) (u : Int) (a : Int × Int) (n al : Int) (w : Bool) : L117 ((m, u, ()), (a, n, al, w), ()) = some ((decide (c1 m a n), ()), ()) := by
 obtain ⟨x, y⟩ := a
 refine (F117_eq L51 L65 m u x y n al w).trans ?_
 rw [z1L]
 simp only [Option.bind_some]
 rw [z3n]
 rw [z5R m u (x, y)]
 simp only [Option.bind_some]
 have hb : (m.getD x.toNat ((0, 0, false, false), [])).2.length ≤ 65536 := (hI.at x.toNat).1
 by_cases h0 : isN (x, y) = true
 ·rw [if_pos h0, decide_eq_true (show c1 m (x, y) n from .inl (by unfold isN at h0; rw [decide_eq_true_eq] at h0; omega))]
 ·rw [if_neg h0]
  by_cases h1 : fm m.length (x, y) = true
  ·obtain ⟨p1, p2, _, _⟩ := z6f h1 (by simpa using h0)
   have p1 : 0 ≤ x := p1
   have p2 : x < (m.length : Int) := p2
   rw [if_neg (by rw [h1]; decide), if_pos p1, if_pos p2]
   by_cases h2 : y < 0
   ·rw [if_pos (decide_eq_true h2), decide_eq_true (show c1 m (x, y) n from .inr (.inr (.inl h2)))]
   ·rw [if_neg (by rw [decide_eq_true_eq]; exact h2)]
    by_cases h3 : ((m.getD x.toNat ((0, 0, false, false), [])).2.length : Int) < y
    ·rw [if_pos (decide_eq_true h3), decide_eq_true (show c1 m (x, y) n from .inr (.inr (.inr (.inl h3))))]
    ·rw [if_neg (by rw [decide_eq_true_eq]; exact h3), wi (by omega) (by omega)]
     congr 3
     rw [decide_eq_decide]
     refine ⟨fun q => .inr (.inr (.inr (.inr q))), fun q => ?_⟩
     rcases q with q | q | q | q | q
     ·exact absurd p1 (by show ¬ 0 ≤ x; have q : x < 0 := q; omega)
     ·rw [h1] at q; cases q
     ·exact absurd q h2
     ·exact absurd q h3
     ·exact q
  ·rw [if_pos (by simpa using h1), decide_eq_true (show c1 m (x, y) n from .inr (.inl (by simpa using h1)))]
theorem z2g {m : List Bp} {a : Int × Int} {n : Int} (h : ¬ c1 m a n) : 0 ≤ a.1 ∧ a.1 < m.length ∧ 0 ≤ a.2 ∧ a.2 ≤ (blk m a).2.length ∧ a.2 + n ≤ (blk m a).2.length ∧ fm m.length a = true := by
 unfold c1 at h
 have h1 : ¬ a.1 < 0 := fun q => h (.inl q)
 have h2 : fm m.length a = true := by
  cases q : fm m.length a with
  | true => rfl
  | false => exact absurd (.inr (.inl q)) h
 have h3 : ¬ a.2 < 0 := fun q => h (.inr (.inr (.inl q)))
 have h4 : ¬ ((blk m a).2.length : Int) < a.2 := fun q => h (.inr (.inr (.inr (.inl q))))
 have h5 : ¬ ((blk m a).2.length : Int) - a.2 < n := fun q => h (.inr (.inr (.inr (.inr q))))
 have h6 := (z6f h2 (by
  cases q : isN a with
  | false => rfl
  | true => exact absurd ((z7r h2).2 q) h1)).2.1
 exact ⟨by omega, h6, by omega, by omega, by omega, h2⟩
theorem L118_val {m : List Bp} {a : Int × Int} {n : Int} (h : ¬ c1 m a n) (u : Int) (al : Int) (w : Bool) : L118 ((m, u, ()), (a, n, al, w), ()) = some (((blk m a).1.2.2.2, ()), ()) := by
 obtain ⟨p1, p2, _⟩ := z2g h
 exact (F118_eq m u a.1 a.2 n al w).trans ((if_pos p1).trans (if_pos p2))
theorem L119_val {m : List Bp} {a : Int × Int} {n : Int} (h : ¬ c1 m a n) (u : Int) (al : Int) (w : Bool) : L119 ((m, u, ()), (a, n, al, w), ()) = some ((decide (c3 m a al), ()), ()) := by
 obtain ⟨p1, p2, _⟩ := z2g h
 refine (F119_eq m u a.1 a.2 n al w).trans ?_
 by_cases h1 : 0 < al
 ·rw [if_pos (decide_eq_true h1), if_pos p1, if_pos p2]
  by_cases h2 : al > (blk m a).1.2.1
  ·rw [if_pos (decide_eq_true h2), decide_eq_true (show c3 m a al from ⟨h1, .inl h2⟩)]
  ·rw [if_neg (by rw [decide_eq_true_eq]; exact h2), if_neg (by omega)]
   congr 3
   rw [Bool.eq_iff_iff, Bool.not_eq_true', beq_eq_false_iff_ne, decide_eq_true_eq]
   exact ⟨fun q => ⟨h1, .inr q⟩, fun q => by rcases q.2 with q | q; exact absurd q h2; exact q⟩
 ·rw [if_neg (by rw [decide_eq_true_eq]; exact h1), decide_eq_false (show ¬ c3 m a al from fun q => h1 q.1)]
theorem L120_val {m : List Bp} {a : Int × Int} {n : Int} (h : ¬ c1 m a n) (u : Int) (al : Int) (w : Bool) : L120 ((m, u, ()), (a, n, al, w), ()) = some (((w && (blk m a).1.2.2.1), ()), ()) := by
 obtain ⟨p1, p2, _⟩ := z2g h
 refine (F120_eq m u a.1 a.2 n al w).trans ?_
 cases w
 ·rfl
 ·exact (if_pos rfl).trans ((if_pos p1).trans (if_pos p2))
theorem z3p {A B : Type} {f : A → Option (A ⊕ B)} {x y : A} (h : f x = some (.inl y)) : limL f x = limL f y := by rw [limL_eq, h]
theorem z1r {A B : Type} {f : A → Option (A ⊕ B)} {x : A} {y : B} (h : f x = some (.inr y)) : limL f x = some y := by rw [limL_eq, h]
theorem z5S {m : List Bp} (hI : Inv m) (u : Int) (a : Int × Int) (n al : Int) (w : Bool) : L55 ((m, u, ()), (a, n, al, w), ()) = some ((kd m a n al w, ()), ()) := by
 refine (F55_eq L92 Lg55_4 m u a.1 a.2 n al w).trans ?_
 unfold kd
 by_cases hn : n ≤ 0
 ·rw [if_pos (decide_eq_true hn), if_pos hn]
 ·rw [if_neg (by rw [decide_eq_true_eq]; exact hn), if_neg hn]
  rw [show L92 () = _ from F92_eq]
  simp only [Option.bind_some]
  have e0 := z5p L117 L118 L119 L120 m u 14 15 16 17 0 a.1 a.2 n al w
  have e1 := z5p L117 L118 L119 L120 m u 14 15 16 17 1 a.1 a.2 n al w
  have e2 := z5p L117 L118 L119 L120 m u 14 15 16 17 2 a.1 a.2 n al w
  have e3 := z5p L117 L118 L119 L120 m u 14 15 16 17 3 a.1 a.2 n al w
  have e4 := z5p L117 L118 L119 L120 m u 14 15 16 17 4 a.1 a.2 n al w
  have w1 : IntKind.i64.wrap (0 + 1) = 1 := by decide
  have w2 : IntKind.i64.wrap (1 + 1) = 2 := by decide
  have w3 : IntKind.i64.wrap (2 + 1) = 3 := by decide
  have w4 : IntKind.i64.wrap (3 + 1) = 4 := by decide
  rw [if_pos (by decide), if_pos (by rfl), L117_val hI u (a.1, a.2), w1] at e0
  rw [if_pos (by decide), if_neg (by decide), if_pos (by rfl), w2] at e1
  rw [if_pos (by decide), if_neg (by decide), if_neg (by decide), if_pos (by rfl), w3] at e2
  rw [if_pos (by decide), if_neg (by decide), if_neg (by decide), if_neg (by decide), if_pos (by rfl), w4] at e3
  rw [if_neg (by decide)] at e4
  simp only [Option.bind_some] at e0
  show (limL (S55_4 L117 L118 L119 L120) _).bind _ = _
  by_cases h1 : c1 m a n
  ·rw [if_pos (decide_eq_true h1)] at e0
   rw [z1r e0, if_pos h1]
   rfl
  ·rw [if_neg (by rw [decide_eq_true_eq]; exact h1)] at e0
   rw [z3p e0, if_neg h1]
   rw [L118_val h1] at e1
   rw [L119_val h1] at e2
   rw [L120_val h1] at e3
   simp only [Option.bind_some] at e1 e2 e3
   by_cases h2 : (blk m a).1.2.2.2 = true
   ·rw [if_pos h2] at e1
    rw [z1r e1, if_pos h2]
    rfl
   ·rw [if_neg h2] at e1
    rw [z3p e1, if_neg h2]
    by_cases h3 : c3 m a al
    ·rw [if_pos (decide_eq_true h3)] at e2
     rw [z1r e2, if_pos h3]
     rfl
    ·rw [if_neg (by rw [decide_eq_true_eq]; exact h3)] at e2
     rw [z3p e2, if_neg h3]
     by_cases h4 : (w && (blk m a).1.2.2.1) = true
     ·rw [if_pos h4] at e3
      rw [z1r e3, if_pos h4]
      rfl
     ·rw [if_neg h4] at e3
      rw [z3p e3, if_neg h4, z1r e4]
      rfl
theorem z3X {m : List Bp} (hI : Inv m) (u : Int) (a : Int × Int) (n al : Int) (w : Bool) : L110 ((cv m, u, ()), a, n, al, w, ()) = some ((kd m a n al w, ()), ()) := by
 obtain ⟨x, y⟩ := a
 refine (F110_eq L106 (cv m) u x y n al w).trans ?_
 rw [z3Y m u (x, y)]
 simp only [Option.bind_some]
 unfold kd
 by_cases hn : n ≤ 0
 ·rw [if_pos (decide_eq_true hn), if_pos hn]
 ·rw [if_neg (by rw [decide_eq_true_eq]; exact hn), if_neg hn]
  by_cases h0 : x < 0
  ·rw [if_pos (decide_eq_true h0), if_pos (show c1 m (x, y) n from .inl h0)]
  ·rw [if_neg (by rw [decide_eq_true_eq]; exact h0)]
   by_cases h1 : fm m.length (x, y) = true
   ·have h1' := h1
    unfold fm at h1'
    rw [decide_eq_true_eq] at h1'
    have p1 : 0 ≤ x := by omega
    have p2 : x < (m.length : Int) := by
     rcases h1' with q | q
     ·have : x = -1 := q.1
      omega
     ·exact q.2.1
    have hb := (hI.at x.toNat).1
    have hc := z2e (m := m) (k := x.toNat) (by omega)
    have hl : ((cv m).getD x.toNat dK).2.length = (m.getD x.toNat dB).2.length := by rw [hc]; simp [cvB]
    rw [if_neg (by rw [h1]; decide), if_pos p1, z0z, if_pos p2, hl]
    by_cases h2 : y < 0
    ·rw [if_pos (decide_eq_true h2), if_pos (show c1 m (x, y) n from .inr (.inr (.inl h2)))]
    ·rw [if_neg (by rw [decide_eq_true_eq]; exact h2)]
     by_cases h3 : ((m.getD x.toNat dB).2.length : Int) < y
     ·rw [if_pos (decide_eq_true h3), if_pos (show c1 m (x, y) n from .inr (.inr (.inr (.inl h3))))]
     ·rw [if_neg (by rw [decide_eq_true_eq]; exact h3), wi (by omega) (by omega)]
      by_cases h4 : ((m.getD x.toNat dB).2.length : Int) - y < n
      ·rw [if_pos (decide_eq_true h4), if_pos (show c1 m (x, y) n from .inr (.inr (.inr (.inr h4))))]
      ·rw [if_neg (by rw [decide_eq_true_eq]; exact h4)]
       have hc1 : ¬ c1 m (x, y) n := by
        rintro (q | q | q | q | q)
        ·exact h0 q
        ·rw [h1] at q; cases q
        ·exact h2 q
        ·exact h3 q
        ·exact h4 q
       rw [if_neg hc1]
       have k1 : ((cv m).getD x.toNat dK).1.2.2.2 = !(blk m (x, y)).1.2.2.2 := by rw [hc]; rfl
       have k2 : ((cv m).getD x.toNat dK).1.2.1 = (blk m (x, y)).1.2.1 := by rw [hc]; rfl
       have k3 : ((cv m).getD x.toNat dK).1.2.2.1 = (blk m (x, y)).1.2.2.1 := by rw [hc]; rfl
       rw [k1, k2, k3, Bool.not_not]
       by_cases h5 : (blk m (x, y)).1.2.2.2 = true
       ·rw [if_pos h5, if_pos h5]
       ·rw [if_neg h5, if_neg h5]
        have last : (if w = true then if (blk m (x, y)).1.2.2.1 = true then some (((17 : Int), ()), ()) else some ((-1, ()), ()) else some ((-1, ()), ()) : Option z2L.den) = some ((if (w && (blk m (x, y)).1.2.2.1) = true then 17 else -1, ()), ()) := by
         cases w
         ·rfl
         ·cases (blk m (x, y)).1.2.2.1 <;> rfl
        by_cases h6 : 0 < al
        ·rw [if_pos (decide_eq_true h6)]
         by_cases h7 : al > (blk m (x, y)).1.2.1
         ·rw [if_pos (decide_eq_true h7), if_pos (show c3 m (x, y) al from ⟨h6, .inl h7⟩)]
         ·rw [if_neg (by rw [decide_eq_true_eq]; exact h7), if_neg (by omega)]
          by_cases h8 : y.tmod al = 0
          ·rw [if_neg (by rw [h8]; decide), last, if_neg (show ¬ c3 m (x, y) al by rintro ⟨_, q | q⟩; exact h7 q; exact q h8)]
          ·rw [if_pos (by rw [Bool.not_eq_true', beq_eq_false_iff_ne]; exact h8), if_pos (show c3 m (x, y) al from ⟨h6, .inr h8⟩)]
        ·rw [if_neg (by rw [decide_eq_true_eq]; exact h6), last, if_neg (show ¬ c3 m (x, y) al from fun q => h6 q.1)]
   ·rw [if_pos (by simpa using h1), if_pos (show c1 m (x, y) n from .inr (.inl (by simpa using h1)))]
theorem z1a {m : List Bp} {a : Int × Int} {n al : Int} {w : Bool} (h : kd m a n al w = -1) (hn : 0 < n) : ¬ c1 m a n := by
 intro q
 unfold kd at h
 rw [if_neg (by omega), if_pos q] at h
 cases h
end Go.Proofs.Rf
namespace Go.Proofs.Rf
open Go Go.RowKit
def fstZ (z : Int) : List Int → Int
 | [] => z
 | a :: r => if a = z then fstZ z r else a
theorem fstZ_drop (z : Int) {l : List Int} {i : Nat} (h : i < l.length) : fstZ z (l.drop i) = if l.getD i 0 = z then fstZ z (l.drop (i + 1)) else l.getD i 0 := by
 rw [List.drop_eq_getElem_cons h, z1S 0 h]
 rfl
theorem z8B {f : (List Int × Int × Int × Unit) × Unit → Option (((List Int × Int × Int × Unit) × Unit) ⊕ (((Int × Unit) × Unit) ⊕ (Unit × Unit)))} (z : Int)
  (hf : ∀ l n i, f ((l, n, i, ()), ()) = (if decide (i < n) = true then
   if 0 ≤ i then
    if i < (l.length : Int) then
     if (!l.getD i.toNat 0 == z) = true then some (Sum.inr (Sum.inl ((l.getD i.toNat 0, ()), ())))
     else some (Sum.inl ((l, n, IntKind.i64.wrap (i + 1), ()), ()))
    else none
   else none
  else some (Sum.inr (Sum.inr ((), ()))))) (l : List Int) (hl : l.length ≤ 1000) :
  ((limL f ((l, (l.length : Int), 0, ()), ())).bind fun y => Sum.elim (fun y => some ((y.1.1, ()), ())) (fun _ => some ((z, ()), ())) y : Option ((Int × Unit) × Unit)) = some ((fstZ z l, ()), ()) := by
 obtain ⟨r, h1, h2⟩ := z0K (f := f) (fun x => l.length - x.1.2.2.1.toNat) (fun x => ∃ i : Nat, i ≤ l.length ∧ x = ((l, (l.length : Int), (i : Int), ()), ()) ∧ fstZ z l = fstZ z (l.drop i))
  (fun r => (Sum.elim (fun y => some ((y.1.1, ()), ())) (fun _ => some ((z, ()), ())) r : Option ((Int × Unit) × Unit)) = some ((fstZ z l, ()), ())) (by
  rintro x ⟨i, hi, rfl, he⟩
  rw [hf]
  by_cases h : i < l.length
  ·rw [if_pos (decide_eq_true (by omega)), if_pos (by omega), if_pos (by omega), Int.toNat_natCast]
   rw [fstZ_drop z h] at he
   by_cases hz : l.getD i 0 = z
   ·rw [if_pos hz] at he
    rw [if_neg (by rw [hz]; simp), wi (by omega) (by omega)]
    refine .inl ⟨_, rfl, ⟨i + 1, by omega, rfl, he⟩, ?_⟩
    show l.length - ((i : Int) + 1).toNat < l.length - (i : Int).toNat
    omega
   ·rw [if_neg hz] at he
    rw [if_pos (by rw [Bool.not_eq_true', beq_eq_false_iff_ne]; exact hz), he]
    exact .inr ⟨_, rfl, rfl⟩
  ·rw [if_neg (by rw [decide_eq_true_eq]; omega), he, List.drop_of_length_le (by omega)]
   exact .inr ⟨_, rfl, rfl⟩) ((l, (l.length : Int), ((0 : Nat) : Int), ()), ()) ⟨0, by omega, rfl, by rw [List.drop_zero]⟩
 have h1 : limL f ((l, (l.length : Int), 0, ()), ()) = some r := h1
 rw [h1]
 exact h2
theorem L48_val (l : List Int) (hl : l.length ≤ 1000) : L48 (l, ()) = some ((fstZ 0 l, ()), ()) :=
 (F48_eq Lg48_2 l).trans (z8B (f := S48_2) 0 S48_2_eq l hl)
theorem L59_val (l : List Int) (hl : l.length ≤ 1000) : L59 (l, ()) = some ((fstZ (-1) l, ()), ()) :=
 (F59_eq Lg59_2 l).trans (z8B (f := S59_2) (-1) S59_2_eq l hl)
theorem L100_val (l : List Int) (hl : l.length ≤ 1000) : L100 (l, ()) = some ((fstZ 0 l, ()), ()) := by
 refine (F100_eq Lg100_2 l).trans ?_
 obtain ⟨r, h1, h2⟩ := z0K (f := S100_2) (fun x => l.length - x.1.2.1.toNat) (fun x => ∃ i : Nat, i ≤ l.length ∧ x = ((l, (i : Int), ()), ()) ∧ fstZ 0 l = fstZ 0 (l.drop i))
  (fun r => (Sum.elim (fun y => some ((y.1.1, ()), ())) (fun _ => some ((0, ()), ())) r : Option rs100.den) = some ((fstZ 0 l, ()), ())) (by
  rintro x ⟨i, hi, rfl, he⟩
  rw [S100_2_eq]
  by_cases h : i < l.length
  ·have q1 : (0 : Int) ≤ (i : Int) := by omega
   have q2 : (i : Int) < (l.length : Int) := by omega
   rw [if_pos (decide_eq_true q2)]
   simp only [if_pos q1, if_pos q2, Int.toNat_natCast]
   rw [fstZ_drop 0 h] at he
   by_cases hz : l.getD i 0 = 0
   ·rw [if_pos hz] at he
    rw [if_neg (by rw [hz]; simp), wi (by omega) (by omega)]
    refine .inl ⟨_, rfl, ⟨i + 1, by omega, rfl, he⟩, ?_⟩
    show l.length - ((i : Int) + 1).toNat < l.length - (i : Int).toNat
    omega
   ·rw [if_neg hz] at he
    rw [if_pos (by rw [Bool.not_eq_true', beq_eq_false_iff_ne]; exact hz), he]
    exact .inr ⟨_, rfl, rfl⟩
  ·rw [if_neg (by rw [decide_eq_true_eq]; omega), he, List.drop_of_length_le (by omega)]
   exact .inr ⟨_, rfl, rfl⟩) ((l, ((0 : Nat) : Int), ()), ()) ⟨0, by omega, rfl, by rw [List.drop_zero]⟩
 have h1 : Lg100_2 ((l, 0, ()), ()) = some r := h1
 rw [h1]
 exact h2
theorem z7T (b : Bool) (e : Int) : L49 (b, e, ()) = some ((if b = true then e else 0, ()), ()) := by
 refine (F49_eq b e).trans ?_
 cases b <;> rfl
theorem L101_val (b : Bool) (e : Int) : L101 (b, e, ()) = some ((if b = true then e else 0, ()), ()) := by
 refine (F101_eq b e).trans ?_
 cases b <;> rfl
def ial (n : Int) : Bool := decide (n = 1 ∨ n = 2 ∨ n = 4 ∨ n = 8 ∨ n = 16)
theorem L50_val (n : Int) : L50 (n, ()) = some ((ial n, ()), ()) := by
 refine (F50_eq L90 n).trans ?_
 have h90 : L90 ([1, 2, 4, 8, 16], n, ()) = some ((ial n, ()), ()) := by
  refine (F90_eq L115 _ n).trans ?_
  have h115 : L115 ([1, 2, 4, 8, 16], n, ()) = some ((if n = 1 then 0 else if n = 2 then 1 else if n = 4 then 2 else if n = 8 then 3 else if n = 16 then 4 else -1, ()), ()) := by
   refine (F115_eq Lg115_2 _ n).trans ?_
   show (limL S115_2 (([1, 2, 4, 8, 16], n, 5, 0, ()), ())).bind _ = _
   have e0 := z3a [1, 2, 4, 8, 16] n 5 0
   have e1 := z3a [1, 2, 4, 8, 16] n 5 1
   have e2 := z3a [1, 2, 4, 8, 16] n 5 2
   have e3 := z3a [1, 2, 4, 8, 16] n 5 3
   have e4 := z3a [1, 2, 4, 8, 16] n 5 4
   have e5 := z3a [1, 2, 4, 8, 16] n 5 5
   rw [if_pos (by decide), if_pos (by decide), if_pos (by decide)] at e0 e1 e2 e3 e4
   rw [if_neg (by decide)] at e5
   have w0 : IntKind.i64.wrap (0 + 1) = 1 := by decide
   have w1 : IntKind.i64.wrap (1 + 1) = 2 := by decide
   have w2 : IntKind.i64.wrap (2 + 1) = 3 := by decide
   have w3 : IntKind.i64.wrap (3 + 1) = 4 := by decide
   have w4 : IntKind.i64.wrap (4 + 1) = 5 := by decide
   rw [w0, show ([1, 2, 4, 8, 16] : List Int).getD (Int.toNat 0) 0 = 1 from rfl] at e0
   rw [w1, show ([1, 2, 4, 8, 16] : List Int).getD (Int.toNat 1) 0 = 2 from rfl] at e1
   rw [w2, show ([1, 2, 4, 8, 16] : List Int).getD (Int.toNat 2) 0 = 4 from rfl] at e2
   rw [w3, show ([1, 2, 4, 8, 16] : List Int).getD (Int.toNat 3) 0 = 8 from rfl] at e3
   rw [w4, show ([1, 2, 4, 8, 16] : List Int).getD (Int.toNat 4) 0 = 16 from rfl] at e4
   by_cases h1 : n = 1
   ·rw [if_pos (by rw [h1]; rfl)] at e0
    rw [z1r e0, if_pos h1]; rfl
   ·rw [if_neg (show ¬ (n == 1) = true by rw [beq_iff_eq]; exact h1)] at e0
    rw [z3p e0, if_neg h1]
    by_cases h2 : n = 2
    ·rw [if_pos (by rw [h2]; rfl)] at e1
     rw [z1r e1, if_pos h2]; rfl
    ·rw [if_neg (show ¬ (n == 2) = true by rw [beq_iff_eq]; exact h2)] at e1
     rw [z3p e1, if_neg h2]
     by_cases h4 : n = 4
     ·rw [if_pos (by rw [h4]; rfl)] at e2
      rw [z1r e2, if_pos h4]; rfl
     ·rw [if_neg (show ¬ (n == 4) = true by rw [beq_iff_eq]; exact h4)] at e2
      rw [z3p e2, if_neg h4]
      by_cases h8 : n = 8
      ·rw [if_pos (by rw [h8]; rfl)] at e3
       rw [z1r e3, if_pos h8]; rfl
      ·rw [if_neg (show ¬ (n == 8) = true by rw [beq_iff_eq]; exact h8)] at e3
       rw [z3p e3, if_neg h8]
       by_cases h16 : n = 16
       ·rw [if_pos (by rw [h16]; rfl)] at e4
        rw [z1r e4, if_pos h16]; rfl
       ·rw [if_neg (show ¬ (n == 16) = true by rw [beq_iff_eq]; exact h16)] at e4
        rw [z3p e4, if_neg h16, z1r e5]; rfl
  rw [h115]
  simp only [Option.bind_some]
  congr 3
  unfold ial
  rw [decide_eq_decide]
  split
  ·simp_all
  ·split
   ·simp_all
   ·split
    ·simp_all
    ·split
     ·simp_all
     ·split <;> simp_all
 rw [h90]
 rfl
theorem L102_val (n : Int) : L102 (n, ()) = some ((ial n, ()), ()) := by
 refine (F102_eq n).trans ?_
 unfold ial
 by_cases h1 : n = 1
 ·rw [if_pos (by rw [beq_iff_eq]; exact h1), decide_eq_true (.inl h1)]
 ·rw [if_neg (by rw [beq_iff_eq]; exact h1)]
  by_cases h2 : n = 2
  ·rw [if_pos (by rw [beq_iff_eq]; exact h2), decide_eq_true (.inr (.inl h2))]
  ·rw [if_neg (by rw [beq_iff_eq]; exact h2)]
   by_cases h3 : n = 4
   ·rw [if_pos (by rw [beq_iff_eq]; exact h3), decide_eq_true (.inr (.inr (.inl h3)))]
   ·rw [if_neg (by rw [beq_iff_eq]; exact h3)]
    by_cases h4 : n = 8
    ·rw [if_pos (by rw [beq_iff_eq]; exact h4), decide_eq_true (.inr (.inr (.inr (.inl h4))))]
    ·rw [if_neg (by rw [beq_iff_eq]; exact h4)]
     congr 3
     rw [Bool.eq_iff_iff, beq_iff_eq, decide_eq_true_eq]
     omega
def cn (s : Int) : Int := (s + 15) / 16 * 16 + 16
theorem cn_form {s : Int} (h0 : 0 ≤ s) (h1 : s ≤ 65536) : IntKind.i64.wrap (IntKind.i64.wrap (IntKind.i64.wrap ((IntKind.i64.wrap (s + 15)).tdiv 16) * 16) + 16) = cn s := by
 unfold cn
 rw [wi (n := s + 15) (by omega) (by omega), Int.tdiv_eq_ediv_of_nonneg (by omega), wi (n := (s + 15) / 16) (by omega) (by omega), wi (n := (s + 15) / 16 * 16) (by omega) (by omega), wi (by omega) (by omega)]
theorem cn_lo {s : Int} (h0 : 0 ≤ s) : 16 ≤ cn s := by unfold cn; omega
theorem cn_hi {s : Int} (h1 : s ≤ 65536) : cn s ≤ 65552 := by unfold cn; omega
theorem L68_val {s : Int} (h0 : 0 ≤ s) (h1 : s ≤ 65536) : L68 (s, ()) = some ((cn s, ()), ()) := by
 refine (F68_eq s).trans ?_
 rw [cn_form h0 h1]
theorem L105_val {s : Int} (h0 : 0 ≤ s) (h1 : s ≤ 65536) : L105 (s, ()) = some ((cn s, ()), ()) := by
 refine (F105_eq s).trans ?_
 rw [cn_form h0 h1]
def newB (k al : Int) (c : Bool) (s : Int) : Bp := ((k, al, c, false), List.replicate s.toNat zC)
theorem cv_new (m : List Bp) (k al : Int) (c : Bool) (s : Int) : cv (m ++ [newB k al c s]) = cv m ++ [((k, al, c, true), List.replicate s.toNat zK)] := by
 unfold cv newB cvB
 rw [List.map_append, List.map_singleton]
 simp only [List.map_replicate]
 rfl
def plU (k s u : Int) : Int := if k = 0 then u + cn s else u
structure Stp (m : List Bp) (u : Int) (hp : Prop) (m' : List Bp) (u' : Int) : Prop where
 inv : Inv m'
 len : m'.length ≤ m.length + 1
 lo : u - 70000 ≤ u'
 hi : u' ≤ u + 70000
 cap : ¬ hp → u ≤ 65536 → u' ≤ 65536
theorem Stp.same {m : List Bp} {u : Int} {hp : Prop} (h : Inv m) : Stp m u hp m u := ⟨h, by omega, by omega, by omega, fun _ q => q⟩
theorem Inv.new {m : List Bp} (h : Inv m) (hl : m.length < 1000) {k al : Int} {c : Bool} {s : Int} (h1 : s ≤ 65536) : Inv (m ++ [newB k al c s]) := by
 refine ⟨by simp; omega, fun b hb => ?_⟩
 rcases List.mem_append.1 hb with hb | hb
 ·exact h.bl b hb
 ·rw [List.mem_singleton] at hb
  subst hb
  refine ⟨by show (List.replicate s.toNat zC).length ≤ 65536; rw [List.length_replicate]; omega, fun c hc => ?_⟩
  have hc : c ∈ List.replicate s.toNat zC := hc
  rw [List.mem_replicate] at hc
  exact .inl hc.2
theorem L52_val {m : List Bp} (hl : m.length < 1000) {u k al : Int} {c : Bool} {s : Int} (h0 : 0 ≤ s) (h1 : s ≤ 65536) (hu0 : -1000000000 ≤ u) (hu1 : u ≤ 1000000000) :
  L52 (((), (k, al, c), s, ()), ((), u, ()), m, ()) = some (((), ((m.length : Int), 0), 0, ()), ((), plU k s u, ()), m ++ [newB k al c s], ()) := by
 refine (F52_eq L51 L68 k al c s u m).trans ?_
 have q1 := cn_lo h0
 have q2 := cn_hi h1
 rw [if_neg (show ¬ decide ((m.length : Int) ≥ 100000) = true by rw [decide_eq_true_eq]; omega), if_pos h0, if_pos (Int.le_refl _), if_pos (show s ≤ ((4294967296 : Nat) : Int) by omega), if_pos (by simp; omega)]
 have e1 : IntKind.i64.wrap (((m ++ [((k, al, c, false), List.replicate s.toNat (0, 0, 0, 0))] : List Bp).length : Int) - 1) = (m.length : Int) := by
  rw [List.length_append, List.length_singleton, wi (by omega) (by omega)]
  omega
 unfold plU
 by_cases hk : k = 0
 ·rw [if_pos (by rw [beq_iff_eq]; exact hk), if_pos hk, L68_val h0 h1]
  simp only [Option.bind_some]
  rw [wi (n := u + cn s) (by omega) (by omega), e1]
  rfl
 ·rw [if_neg (by rw [beq_iff_eq]; exact hk), if_neg hk, e1]
  rfl
theorem L104_val {m : List Bp} (hl : m.length < 1000) {u k al : Int} {c : Bool} {s : Int} (h0 : 0 ≤ s) (h1 : s ≤ 65536) (hu0 : -1000000000 ≤ u) (hu1 : u ≤ 1000000000) :
  L104 (((), k, s, al, c, ()), ((), u, ()), cv m, ()) = some (((), ((m.length : Int), 0), ()), ((), plU k s u, ()), cv (m ++ [newB k al c s]), ()) := by
 refine (F104_eq L105 k s al c u (cv m)).trans ?_
 have q1 := cn_lo h0
 have q2 := cn_hi h1
 rw [if_pos h0, if_pos (Int.le_refl _), if_pos (show s ≤ ((4294967296 : Nat) : Int) by omega), if_pos (by rw [z0z]; simp; omega)]
 have e1 : IntKind.i64.wrap (((cv m ++ [((k, al, c, true), List.replicate s.toNat (0, 0, (0, 0), 0))] : List Br).length : Int) - 1) = (m.length : Int) := by
  rw [List.length_append, List.length_singleton, z0z, wi (by omega) (by omega)]
  omega
 unfold plU
 rw [cv_new]
 by_cases hk : k = 0
 ·rw [if_pos (by rw [beq_iff_eq]; exact hk), if_pos hk, L105_val h0 h1]
  simp only [Option.bind_some]
  rw [wi (n := u + cn s) (by omega) (by omega), e1]
 ·rw [if_neg (by rw [beq_iff_eq]; exact hk), if_neg hk, e1]
  rfl
theorem plU_stp {m : List Bp} (hI : Inv m) (hl : m.length < 1000) {u k al : Int} {c : Bool} {s : Int} (h0 : 0 ≤ s) (h1 : s ≤ 65536) {hp : Prop} (hh : k = 0 → hp ∨ u + cn s ≤ 65536) : Stp m u hp (m ++ [newB k al c s]) (plU k s u) := by
 have q1 := cn_lo h0
 have q2 := cn_hi h1
 refine ⟨hI.new hl h1, by simp, ?_, ?_, fun hn hu => ?_⟩
 ·unfold plU; split <;> omega
 ·unfold plU; split <;> omega
 ·unfold plU
  split
  ·rename_i hk
   rcases hh hk with q | q
   ·exact absurd q hn
   ·exact q
  ·exact hu
end Go.Proofs.Rf
