/- Texts put together: E410, Q0, Q1, P5, L40, P6, P7, P8, K40, P0, P9, Q2, Q3, Q4, Q5, Q6, Q7, R1, R2, R3. -/
import Derived.Test.YtgkgjgcoalmldaaM3
import Derived.Laws.RangeAny
import Derived.Laws.RangeString
/- The functions, evaluated. -/
set_option linter.unusedVariables false
namespace Go.Proofs.Rf
open Go Go.RowKit
def tbE41_0 : List UInt8 := [(48 : UInt8), (49 : UInt8), (50 : UInt8), (51 : UInt8), (52 : UInt8), (53 : UInt8), (54 : UInt8), (55 : UInt8), (56 : UInt8), (57 : UInt8), (97 : UInt8), (98 : UInt8), (99 : UInt8), (100 : UInt8), (101 : UInt8), (102 : UInt8), (103 : UInt8), (104 : UInt8), (105 : UInt8), (106 : UInt8), (107 : UInt8), (108 : UInt8), (109 : UInt8), (110 : UInt8), (111 : UInt8), (112 : UInt8), (113 : UInt8), (114 : UInt8), (115 : UInt8), (116 : UInt8), (117 : UInt8), (118 : UInt8), (119 : UInt8), (120 : UInt8), (121 : UInt8), (122 : UInt8)]
theorem F22_eq (F52 : (SV.denL ps52) → Option (rs52).den) (F53 : (SV.denL ps53) → Option (rs53).den) (a0_0 : Bool) (a0_1 : List Int) : F22 F52 F53 ((a0_0, a0_1), ()) = (
  (F53 (decide ((↑a0_1.length : Int) > 200), 5, ())).bind fun y =>
    if decide ((↑a0_1.length : Int) > 0) = true then
      if 0 ≤ IntKind.i64.wrap ((↑a0_1.length : Int) - 1) then
        if IntKind.i64.wrap ((↑a0_1.length : Int) - 1) < (↑a0_1.length : Int) then
          if (a0_1.getD (IntKind.i64.wrap ((↑a0_1.length : Int) - 1)).toNat 0 == 0) = true then
            (F53 (true, 1, ())).bind fun y_1 => (F52 ([y.1.1, y_1.1.1], ())).bind fun y => some ((y.1.1, ()), ())
          else
            if ((↑a0_1.length : Int) == 0) = true then
              (F53 (a0_0, 1, ())).bind fun y_1 => (F52 ([y.1.1, y_1.1.1], ())).bind fun y => some ((y.1.1, ()), ())
            else (F53 (false, 1, ())).bind fun y_1 => (F52 ([y.1.1, y_1.1.1], ())).bind fun y => some ((y.1.1, ()), ())
        else none
      else none
    else
      if ((↑a0_1.length : Int) == 0) = true then
        (F53 (a0_0, 1, ())).bind fun y_1 => (F52 ([y.1.1, y_1.1.1], ())).bind fun y => some ((y.1.1, ()), ())
      else (F53 (false, 1, ())).bind fun y_1 => (F52 ([y.1.1, y_1.1.1], ())).bind fun y => some ((y.1.1, ()), ()) : Option rs22.den) := by kernel_rfl
theorem F63_eq (a0_0 : Bool) (a0_1 : List Int) : F63 ((a0_0, a0_1), ()) = (
  some ((a0_1, ()), ()) : Option rs63.den) := by kernel_rfl
theorem F64_eq (a0 : List Int) (base1 : Int) : F64 (a0, base1, ()) = (
  some ((((), (), ()), ()), (a0, ()), (base1, ()), ()) : Option rs64.den) := by kernel_rfl
theorem S65_1_eq (i2 : Int) (j3 : Int) (r0 : List Int) : S65_1 (((), i2, j3, ()), (r0, ())) = (
  if decide (i2 < j3) = true then
    if 0 ≤ j3 then
      if j3 < (↑r0.length : Int) then
        if 0 ≤ i2 then
          if i2 < (↑r0.length : Int) then
            if 0 ≤ i2 then
              if i2 < (↑r0.length : Int) then
                if 0 ≤ j3 then
                  if j3 < (↑(r0.set i2.toNat (r0.getD j3.toNat 0)).length : Int) then
                    some
                      (Sum.inl
                        (((), IntKind.i64.wrap (i2 + 1), IntKind.i64.wrap (j3 - 1), ()),
                          (r0.set i2.toNat (r0.getD j3.toNat 0)).set j3.toNat (r0.getD i2.toNat 0), ()))
                  else none
                else none
              else none
            else none
          else none
        else none
      else none
    else none
  else some (Sum.inr (((), ()), r0, ())) : Option (sh65_1.den ⊕ denX w65_1)) := by kernel_rfl
theorem F65_eq (g65_1 : sh65_1.den → Option (denX w65_1)) (r0 : List Int) : F65 g65_1 (((), ()), (r0, ())) = (
  (g65_1 (((), 0, IntKind.i64.wrap ((↑r0.length : Int) - 1), ()), r0, ())).bind fun y => some (((), ()), y.2.1, ()) : Option rs65.den) := by kernel_rfl
theorem F108_eq (s0 : List Int) : F108 (s0, ()) = (
  some ((((), ()), ()), (s0, ()), ()) : Option rs108.den) := by kernel_rfl
theorem S99_4_eq (e0 : Int) (e1 : Int) (b0_0 : Int) (b2_0 : Int) (r3 : List Int) : S99_4 (e0, e1) (((), (), (), ()), ((b0_0, ()), ((), ()), (b2_0, ()), r3, ())) = (
  if IntKind.u64.wrap b0_0 = 0 then none
  else
    if IntKind.u64.wrap b0_0 = 0 then none
    else
      if 0 ≤ e0 then
        if e0 < (↑r3.length : Int) then
          some
            (Sum.inl
              (((), (), (), ()), (b0_0, ()), ((), ()),
                ((bitop BinOp.or IntKind.u64 (IntKind.u64.wrap (b2_0 * 2 ^ 32)) (IntKind.u64.wrap e1)).tmod
                    (IntKind.u64.wrap b0_0),
                  ()),
                r3.set e0.toNat
                  (IntKind.u32.wrap
                    (IntKind.u64.wrap
                      ((bitop BinOp.or IntKind.u64 (IntKind.u64.wrap (b2_0 * 2 ^ 32)) (IntKind.u64.wrap e1)).tdiv
                        (IntKind.u64.wrap b0_0)))),
                ()))
        else none
      else none : Option (sh99_4.den ⊕ denX w99_4)) := by kernel_rfl
theorem F99_eq (F96 : (SV.denL ps96) → Option (rs96).den) (F108 : (SV.denL ps108) → Option (rs108).den) (D115 : Dt115) (g99_4 : List El115 → sh99_4.den → Option (sh99_4.den ⊕ denX w99_4)) (a0 : List Int) (d1 : Int) : F99 F96 F108 D115 g99_4 (a0, d1, ()) = (
  if (↑a0.length : Int) ≤ (↑a0.length : Int) then
    if (↑a0.length : Int) ≤ ((4294967296 : Nat) : Int) then
      (F108 (a0, ())).bind fun y =>
        (D115 (((), ()), ((y.2.1.1, ()), ()))).bind
          fun xs =>
          (g99_4 xs (((), (), (), ()), (d1, ()), ((), ()), (0, ()), List.replicate (↑a0.length : Int).toNat 0, ())).bind
            fun y =>
            Sum.elim
              (fun x' => (F96 (x'.2.2.2.2.1, ())).bind fun y => some ((y.1.1, IntKind.u32.wrap x'.2.2.2.1.1, ()), ()))
              (fun z => none) y
    else none
  else none : Option rs99.den) := by kernel_rfl
theorem B115_eq (z0 : List Int) : B115 (((), ()), ((z0, ()), ())) = (
  some (((), IntKind.i64.wrap ((↑z0.length : Int) - 1), ()), (z0, ()), ()) : Option head115.den) := by kernel_rfl
theorem Y115_eq (i3 : Int) (z0 : List Int) : Y115 (((), i3, ()), ((z0, ()), ())) = (
  if decide (i3 ≥ 0) = true then
    if 0 ≤ i3 then
      if i3 < (↑z0.length : Int) then
        some (RY.yl (i3, z0.getD i3.toNat 0) (((), IntKind.i64.wrap (i3 - 1), ()), (z0, ()), ()))
      else none
    else none
  else some RY.done : Option (RY head115.den El115)) := by kernel_rfl
theorem B98_eq (F99 : (SV.denL ps99) → Option (rs99).den) (z0 : List Int) (b1 : Int) : B98 F99 (((), (), ()), ((z0, ()), (b1, ()), ())) = (
  some (((), (), ()), (z0, ()), (b1, ()), ()) : Option psh98.den) := by kernel_rfl
theorem Y98_eq (F99 : (SV.denL ps99) → Option (rs99).den) (z0 : List Int) (b1 : Int) : Y98 F99 (((), (), ()), ((z0, ()), (b1, ()), ())) = (
  if decide ((↑z0.length : Int) > 0) = true then
    (F99 (z0, b1, ())).bind fun y => some (RY.yl y.1.2.1 (((), (), ()), (y.1.1, ()), (b1, ()), ()))
  else some RY.done : Option (RY psh98.den El98)) := by kernel_rfl
theorem S16_8_eq (e : Int) (b0_0 : Bool) (b0_1 : List Int) (r2 : List Int) : S16_8 e (((), (), ()), ((b0_0, b0_1, ()), ((), ()), r2, ())) = (
  if 0 ≤ e then
    if e < (↑36 : Int) then
      if
          r2.length +
              [(↑(tbE41_0.getD
                          e.toNat (0 : UInt8)).toNat :
                    Int)].length ≤
            4294967296 then
        some
          (Sum.inl
            (((), (), ()), (b0_0, b0_1, ()), ((), ()),
              r2 ++
                [(↑(tbE41_0.getD
                          e.toNat (0 : UInt8)).toNat :
                    Int)],
              ()))
      else none
    else none
  else none : Option (sh16_8.den ⊕ denX w16_8)) := by kernel_rfl
theorem F16_eq (F22 : (SV.denL ps22) → Option (rs22).den) (F52 : (SV.denL ps52) → Option (rs52).den) (F53 : (SV.denL ps53) → Option (rs53).den) (F54 : (SV.denL ps54) → Option (rs54).den) (F63 : (SV.denL ps63) → Option (rs63).den) (F64 : (SV.denL ps64) → Option (rs64).den) (F65 : (psh65.den) → Option (rs65).den) (D98 : Dt98) (g16_8 : List El98 → sh16_8.den → Option (sh16_8.den ⊕ denX w16_8)) (a0_0 : Bool) (a0_1 : List Int) (base1 : Int) : F16 F22 F52 F53 F54 F63 F64 F65 D98 g16_8 ((a0_0, a0_1), base1, ()) = (
  (F22 ((a0_0, a0_1), ())).bind fun y =>
    (F54 (base1, ())).bind fun y_1 =>
      (F53 (!y_1.1.1, 3, ())).bind fun y_2 =>
        (F52 ([y.1.1, y_2.1.1], ())).bind fun y =>
          if (!y.1.1 == 0) = true then some (([], y.1.1, ()), ())
          else
            if ((↑a0_1.length : Int) == 0) = true then some (([(48 : UInt8)], 0, ()), ())
            else
              (F63 ((a0_0, a0_1), ())).bind fun y =>
                (F64 (y.1.1, IntKind.u32.wrap base1, ())).bind fun y =>
                  (D98 (((), (), ()), ((y.2.1.1, ()), (y.2.2.1.1, ()), ()))).bind
                    fun xs =>
                    (g16_8 xs (((), (), ()), (a0_0, a0_1, ()), ((), ()), [], ())).bind fun y =>
                      Sum.elim
                        (fun x' =>
                          if x'.2.1.1 = true then
                            if List.length x'.2.2.2.1 + 1 ≤ 4294967296 then
                              (F65 (((), ()), x'.2.2.2.1 ++ [45], ())).bind fun z =>
                                some ((List.map (fun n => UInt8.ofNat n.toNat) z.2.1, 0, ()), ())
                            else none
                          else
                            (F65 (((), ()), x'.2.2.2.1, ())).bind fun z =>
                              some ((List.map (fun n => UInt8.ofNat n.toNat) z.2.1, 0, ()), ()))
                        (fun z => none) y : Option rs16.den) := by kernel_rfl
theorem F100_eq (F113 : (SV.denL ps113) → Option (rs113).den) (x0 : Int) : F100 F113 (x0, ()) = (
  (F113 (x0, ())).bind fun y => some ((IntKind.i64.wrap (32 - y.1.1), ()), ()) : Option rs100.den) := by kernel_rfl
theorem F69_eq (F100 : (SV.denL ps100) → Option (rs100).den) (a0 : List Int) : F69 F100 (a0, ()) = (
  if ((↑a0.length : Int) == 0) = true then some ((0, ()), ())
  else
    if 0 ≤ IntKind.i64.wrap ((↑a0.length : Int) - 1) then
      if IntKind.i64.wrap ((↑a0.length : Int) - 1) < (↑a0.length : Int) then
        (F100 (a0.getD (IntKind.i64.wrap ((↑a0.length : Int) - 1)).toNat 0, ())).bind fun y =>
          some ((IntKind.i64.wrap (IntKind.i64.wrap (32 * (↑a0.length : Int)) - y.1.1), ()), ())
      else none
    else none : Option rs69.den) := by kernel_rfl
theorem F75_eq (a0_0 : Bool) (a0_1 : List Int) : F75 ((a0_0, a0_1), ()) = (
  if decide ((↑a0_1.length : Int) > 200) = true then some (((false, []), 4, ()), ()) else some (((a0_0, a0_1), 0, ()), ()) : Option rs75.den) := by kernel_rfl
theorem S76_6_eq (n1 : Int) (s6 : Int) (i7 : Int) (r0 : List Int) : S76_6 ((n1, (), s6, i7, ()), (r0, ())) = (
  if decide (i7 ≥ IntKind.i64.wrap (n1.tdiv 32)) = true then
    if decide (i7 > IntKind.i64.wrap (n1.tdiv 32)) = true then
      if 0 ≤ IntKind.i64.wrap (i7 - 1) then
        if IntKind.i64.wrap (i7 - 1) < (↑r0.length : Int) then
          if IntKind.i64.wrap (32 - s6) < 0 then none
          else
            if 0 ≤ i7 then
              if i7 < (↑r0.length : Int) then
                if s6 < 0 then none
                else
                  if 0 ≤ i7 then
                    if i7 < (↑r0.length : Int) then
                      some
                        (Sum.inl
                          ((n1, (), s6, IntKind.i64.wrap (i7 - 1), ()),
                            r0.set i7.toNat
                              (bitop BinOp.or IntKind.u32 (IntKind.u32.wrap (r0.getD i7.toNat 0 * 2 ^ min s6.toNat 32))
                                (Int.fdiv (r0.getD (IntKind.i64.wrap (i7 - 1)).toNat 0)
                                  (2 ^ min (IntKind.i64.wrap (32 - s6)).toNat 32))),
                            ()))
                    else none
                  else none
              else none
            else none
        else none
      else none
    else
      if 0 ≤ i7 then
        if i7 < (↑r0.length : Int) then
          if s6 < 0 then none
          else
            if 0 ≤ i7 then
              if i7 < (↑r0.length : Int) then
                some
                  (Sum.inl
                    ((n1, (), s6, IntKind.i64.wrap (i7 - 1), ()),
                      r0.set i7.toNat
                        (bitop BinOp.or IntKind.u32 (IntKind.u32.wrap (r0.getD i7.toNat 0 * 2 ^ min s6.toNat 32)) 0),
                      ()))
              else none
            else none
        else none
      else none
  else some (Sum.inr (((), ()), r0, ())) : Option (sh76_6.den ⊕ denX w76_6)) := by kernel_rfl
theorem F76_eq (F96 : (SV.denL ps96) → Option (rs96).den) (g76_6 : sh76_6.den → Option (denX w76_6)) (a0 : List Int) (n1 : Int) : F76 F96 g76_6 (a0, n1, ()) = (
  if 0 ≤ IntKind.i64.wrap (IntKind.i64.wrap ((↑a0.length : Int) + IntKind.i64.wrap (n1.tdiv 32)) + 1) then
    if
        IntKind.i64.wrap (IntKind.i64.wrap ((↑a0.length : Int) + IntKind.i64.wrap (n1.tdiv 32)) + 1) ≤
          IntKind.i64.wrap (IntKind.i64.wrap ((↑a0.length : Int) + IntKind.i64.wrap (n1.tdiv 32)) + 1) then
      if
          IntKind.i64.wrap (IntKind.i64.wrap ((↑a0.length : Int) + IntKind.i64.wrap (n1.tdiv 32)) + 1) ≤
            ((4294967296 : Nat) : Int) then
        if 0 ≤ IntKind.i64.wrap (n1.tdiv 32) then
          if
              IntKind.i64.wrap (n1.tdiv 32) ≤
                (↑(List.replicate
                        (IntKind.i64.wrap
                            (IntKind.i64.wrap ((↑a0.length : Int) + IntKind.i64.wrap (n1.tdiv 32)) + 1)).toNat
                        (0 : Int)).length :
                  Int) then
            if
                (↑(List.replicate
                          (IntKind.i64.wrap
                              (IntKind.i64.wrap ((↑a0.length : Int) + IntKind.i64.wrap (n1.tdiv 32)) + 1)).toNat
                          (0 : Int)).length :
                    Int) ≤
                  (↑(List.replicate
                          (IntKind.i64.wrap
                              (IntKind.i64.wrap ((↑a0.length : Int) + IntKind.i64.wrap (n1.tdiv 32)) + 1)).toNat
                          (0 : Int)).length :
                    Int) then
              if decide (n1.tmod 32 > 0) = true then
                (g76_6
                      ((n1, (), n1.tmod 32,
                          IntKind.i64.wrap
                            ((↑(List.take (IntKind.i64.wrap (n1.tdiv 32)).toNat
                                          (List.replicate
                                            (IntKind.i64.wrap
                                                (IntKind.i64.wrap ((↑a0.length : Int) + IntKind.i64.wrap (n1.tdiv 32)) +
                                                  1)).toNat
                                            0) ++
                                        List.take
                                          ((List.replicate
                                                (IntKind.i64.wrap
                                                    (IntKind.i64.wrap
                                                        ((↑a0.length : Int) + IntKind.i64.wrap (n1.tdiv 32)) +
                                                      1)).toNat
                                                (0 : Int)).length -
                                            (IntKind.i64.wrap (n1.tdiv 32)).toNat)
                                          a0 ++
                                      List.drop
                                        ((IntKind.i64.wrap (n1.tdiv 32)).toNat +
                                          min a0.length
                                            ((List.replicate
                                                  (IntKind.i64.wrap
                                                      (IntKind.i64.wrap
                                                          ((↑a0.length : Int) + IntKind.i64.wrap (n1.tdiv 32)) +
                                                        1)).toNat
                                                  (0 : Int)).length -
                                              (IntKind.i64.wrap (n1.tdiv 32)).toNat))
                                        (List.replicate
                                          (IntKind.i64.wrap
                                              (IntKind.i64.wrap ((↑a0.length : Int) + IntKind.i64.wrap (n1.tdiv 32)) +
                                                1)).toNat
                                          0)).length :
                                Int) -
                              1),
                          ()),
                        List.take (IntKind.i64.wrap (n1.tdiv 32)).toNat
                              (List.replicate
                                (IntKind.i64.wrap
                                    (IntKind.i64.wrap ((↑a0.length : Int) + IntKind.i64.wrap (n1.tdiv 32)) + 1)).toNat
                                0) ++
                            List.take
                              ((List.replicate
                                    (IntKind.i64.wrap
                                        (IntKind.i64.wrap ((↑a0.length : Int) + IntKind.i64.wrap (n1.tdiv 32)) + 1)).toNat
                                    (0 : Int)).length -
                                (IntKind.i64.wrap (n1.tdiv 32)).toNat)
                              a0 ++
                          List.drop
                            ((IntKind.i64.wrap (n1.tdiv 32)).toNat +
                              min a0.length
                                ((List.replicate
                                      (IntKind.i64.wrap
                                          (IntKind.i64.wrap ((↑a0.length : Int) + IntKind.i64.wrap (n1.tdiv 32)) +
                                            1)).toNat
                                      (0 : Int)).length -
                                  (IntKind.i64.wrap (n1.tdiv 32)).toNat))
                            (List.replicate
                              (IntKind.i64.wrap
                                  (IntKind.i64.wrap ((↑a0.length : Int) + IntKind.i64.wrap (n1.tdiv 32)) + 1)).toNat
                              0),
                        ())).bind
                  fun y => (F96 (y.2.1, ())).bind fun y => some ((y.1.1, ()), ())
              else
                (F96
                      (List.take (IntKind.i64.wrap (n1.tdiv 32)).toNat
                              (List.replicate
                                (IntKind.i64.wrap
                                    (IntKind.i64.wrap ((↑a0.length : Int) + IntKind.i64.wrap (n1.tdiv 32)) + 1)).toNat
                                0) ++
                            List.take
                              ((List.replicate
                                    (IntKind.i64.wrap
                                        (IntKind.i64.wrap ((↑a0.length : Int) + IntKind.i64.wrap (n1.tdiv 32)) + 1)).toNat
                                    (0 : Int)).length -
                                (IntKind.i64.wrap (n1.tdiv 32)).toNat)
                              a0 ++
                          List.drop
                            ((IntKind.i64.wrap (n1.tdiv 32)).toNat +
                              min a0.length
                                ((List.replicate
                                      (IntKind.i64.wrap
                                          (IntKind.i64.wrap ((↑a0.length : Int) + IntKind.i64.wrap (n1.tdiv 32)) +
                                            1)).toNat
                                      (0 : Int)).length -
                                  (IntKind.i64.wrap (n1.tdiv 32)).toNat))
                            (List.replicate
                              (IntKind.i64.wrap
                                  (IntKind.i64.wrap ((↑a0.length : Int) + IntKind.i64.wrap (n1.tdiv 32)) + 1)).toNat
                              0),
                        ())).bind
                  fun y => some ((y.1.1, ()), ())
            else none
          else none
        else none
      else none
    else none
  else none : Option rs76.den) := by kernel_rfl
theorem F104_eq (x0 : Int) : F104 (x0, ()) = (
  some ((!x0 == 0, ()), ()) : Option rs104.den) := by kernel_rfl
theorem S114_2_eq (F104 : (SV.denL ps104) → Option (rs104).den) (s0 : List Int) (t7 : Int) (t8 : Int) : S114_2 F104 ((s0, (), t7, t8, ()), ()) = (
  if decide (t8 < t7) = true then
    if 0 ≤ t8 then
      if t8 < (↑s0.length : Int) then
        (F104 (s0.getD t8.toNat 0, ())).bind fun y =>
          if y.1.1 = true then some (Sum.inr (Sum.inl ((t8, ()), ())))
          else some (Sum.inl ((s0, (), t7, IntKind.i64.wrap (t8 + 1), ()), ()))
      else none
    else none
  else some (Sum.inr (Sum.inr ((), ()))) : Option (sh114_2.den ⊕ denX w114_2)) := by kernel_rfl
theorem F114_eq (g114_2 : sh114_2.den → Option (denX w114_2)) (s0 : List Int) : F114 g114_2 (s0, (), ()) = (
  (g114_2 ((s0, (), (↑s0.length : Int), 0, ()), ())).bind fun y =>
    Sum.elim (fun y => some ((y.1.1, ()), ())) (fun z => some ((-1, ()), ())) y : Option rs114.den) := by kernel_rfl
theorem F103_eq (F114 : (SV.denL ps114) → Option (rs114).den) (s0 : List Int) : F103 F114 (s0, (), ()) = (
  (F114 (s0, (), ())).bind fun y => some ((decide (y.1.1 ≥ 0), ()), ()) : Option rs103.den) := by kernel_rfl
theorem S77_6_eq (F71 : (SV.denL ps71) → Option (rs71).den) (a0 : List Int) (n1 : Int) (lost6 : Bool) (t47 : Int) (t48 : Int) (r0 : List Int) : S77_6 F71 ((a0, n1, lost6, (), t47, t48, ()), (r0, ())) = (
  if decide (t48 < t47) = true then
    (F71 (a0, IntKind.i64.wrap (IntKind.i64.wrap (t48 + IntKind.i64.wrap (n1.tdiv 32)) + 1), ())).bind fun y =>
      if 0 ≤ IntKind.i64.wrap (t48 + IntKind.i64.wrap (n1.tdiv 32)) then
        if IntKind.i64.wrap (t48 + IntKind.i64.wrap (n1.tdiv 32)) < (↑a0.length : Int) then
          if n1.tmod 32 < 0 then none
          else
            if 0 ≤ t48 then
              if t48 < (↑r0.length : Int) then
                some
                  (Sum.inl
                    ((a0, n1, lost6, (), t47, IntKind.i64.wrap (t48 + 1), ()),
                      r0.set t48.toNat
                        (IntKind.u32.wrap
                          ((bitop BinOp.or IntKind.u64 (IntKind.u64.wrap (IntKind.u64.wrap y.1.1 * 2 ^ 32))
                                (IntKind.u64.wrap
                                  (a0.getD (IntKind.i64.wrap (t48 + IntKind.i64.wrap (n1.tdiv 32))).toNat 0))).fdiv
                            (2 ^ min (n1.tmod 32).toNat 64))),
                      ()))
              else none
            else none
        else none
      else none
  else some (Sum.inr ((lost6, (), ()), r0, ())) : Option (sh77_6.den ⊕ denX w77_6)) := by kernel_rfl
theorem F77_eq (F96 : (SV.denL ps96) → Option (rs96).den) (F103 : (SV.denL ps103) → Option (rs103).den) (g77_6 : sh77_6.den → Option (denX w77_6)) (a0 : List Int) (n1 : Int) : F77 F96 F103 g77_6 (a0, n1, ()) = (
  if decide (IntKind.i64.wrap (n1.tdiv 32) ≥ (↑a0.length : Int)) = true then
    some (([], decide ((↑a0.length : Int) > 0), ()), ())
  else
    if 0 ≤ IntKind.i64.wrap (n1.tdiv 32) then
      if IntKind.i64.wrap (n1.tdiv 32) ≤ (↑a0.length : Int) then
        (F103 (List.take (IntKind.i64.wrap (n1.tdiv 32)).toNat a0, (), ())).bind fun y =>
          if y.1.1 = true then
            if 0 ≤ IntKind.i64.wrap ((↑a0.length : Int) - IntKind.i64.wrap (n1.tdiv 32)) then
              if
                  IntKind.i64.wrap ((↑a0.length : Int) - IntKind.i64.wrap (n1.tdiv 32)) ≤
                    IntKind.i64.wrap ((↑a0.length : Int) - IntKind.i64.wrap (n1.tdiv 32)) then
                if IntKind.i64.wrap ((↑a0.length : Int) - IntKind.i64.wrap (n1.tdiv 32)) ≤ ((4294967296 : Nat) : Int) then
                  (g77_6
                        ((a0, n1, true, (),
                            (↑(List.replicate
                                    (IntKind.i64.wrap ((↑a0.length : Int) - IntKind.i64.wrap (n1.tdiv 32))).toNat
                                    (0 : Int)).length :
                              Int),
                            0, ()),
                          List.replicate (IntKind.i64.wrap ((↑a0.length : Int) - IntKind.i64.wrap (n1.tdiv 32))).toNat 0,
                          ())).bind
                    fun y => (F96 (y.2.1, ())).bind fun y_1 => some ((y_1.1.1, y.1.1, ()), ())
                else none
              else none
            else none
          else
            if 0 ≤ IntKind.i64.wrap (n1.tdiv 32) then
              if IntKind.i64.wrap (n1.tdiv 32) < (↑a0.length : Int) then
                if IntKind.i64.wrap (32 - n1.tmod 32) < 0 then none
                else
                  if
                      (!IntKind.u32.wrap
                              (IntKind.u32.wrap
                                  (a0.getD (IntKind.i64.wrap (n1.tdiv 32)).toNat 0 *
                                    2 ^ min (IntKind.i64.wrap (32 - n1.tmod 32)).toNat 32) *
                                2 ^ 0) ==
                            0) =
                        true then
                    if 0 ≤ IntKind.i64.wrap ((↑a0.length : Int) - IntKind.i64.wrap (n1.tdiv 32)) then
                      if
                          IntKind.i64.wrap ((↑a0.length : Int) - IntKind.i64.wrap (n1.tdiv 32)) ≤
                            IntKind.i64.wrap ((↑a0.length : Int) - IntKind.i64.wrap (n1.tdiv 32)) then
                        if
                            IntKind.i64.wrap ((↑a0.length : Int) - IntKind.i64.wrap (n1.tdiv 32)) ≤
                              ((4294967296 : Nat) : Int) then
                          (g77_6
                                ((a0, n1, decide (n1.tmod 32 > 0), (),
                                    (↑(List.replicate
                                            (IntKind.i64.wrap ((↑a0.length : Int) - IntKind.i64.wrap (n1.tdiv 32))).toNat
                                            (0 : Int)).length :
                                      Int),
                                    0, ()),
                                  List.replicate
                                    (IntKind.i64.wrap ((↑a0.length : Int) - IntKind.i64.wrap (n1.tdiv 32))).toNat 0,
                                  ())).bind
                            fun y => (F96 (y.2.1, ())).bind fun y_1 => some ((y_1.1.1, y.1.1, ()), ())
                        else none
                      else none
                    else none
                  else
                    if 0 ≤ IntKind.i64.wrap ((↑a0.length : Int) - IntKind.i64.wrap (n1.tdiv 32)) then
                      if
                          IntKind.i64.wrap ((↑a0.length : Int) - IntKind.i64.wrap (n1.tdiv 32)) ≤
                            IntKind.i64.wrap ((↑a0.length : Int) - IntKind.i64.wrap (n1.tdiv 32)) then
                        if
                            IntKind.i64.wrap ((↑a0.length : Int) - IntKind.i64.wrap (n1.tdiv 32)) ≤
                              ((4294967296 : Nat) : Int) then
                          (g77_6
                                ((a0, n1, false, (),
                                    (↑(List.replicate
                                            (IntKind.i64.wrap ((↑a0.length : Int) - IntKind.i64.wrap (n1.tdiv 32))).toNat
                                            (0 : Int)).length :
                                      Int),
                                    0, ()),
                                  List.replicate
                                    (IntKind.i64.wrap ((↑a0.length : Int) - IntKind.i64.wrap (n1.tdiv 32))).toNat 0,
                                  ())).bind
                            fun y => (F96 (y.2.1, ())).bind fun y_1 => some ((y_1.1.1, y.1.1, ()), ())
                        else none
                      else none
                    else none
              else none
            else none
      else none
    else none : Option rs77.den) := by kernel_rfl
theorem S79_4_eq (e0 : Int) (e1 : Int) (b0_0 : List Int) (b1_0 : Int) : S79_4 (e0, e1) (((), (), ()), ((b0_0, ()), (b1_0, ()), ())) = (
  if 0 ≤ e0 then
    if e0 < (↑b0_0.length : Int) then
      if (!e1 == b0_0.getD e0.toNat 0) = true then
        if 0 ≤ e0 then
          if e0 < (↑b0_0.length : Int) then
            if decide (e1 < b0_0.getD e0.toNat 0) = true then some (Sum.inr (((), ()), (-1, ()), ()))
            else some (Sum.inr (((), ()), (1, ()), ()))
          else none
        else none
      else some (Sum.inl (((), (), ()), (b0_0, ()), (b1_0, ()), ()))
    else none
  else none : Option (sh79_4.den ⊕ denX w79_4)) := by kernel_rfl
theorem F79_eq (F108 : (SV.denL ps108) → Option (rs108).den) (D115 : Dt115) (g79_4 : List El115 → sh79_4.den → Option (sh79_4.den ⊕ denX w79_4)) (a0 : List Int) (b1 : List Int) : F79 F108 D115 g79_4 (a0, b1, ()) = (
  if (!(↑a0.length : Int) == (↑b1.length : Int)) = true then
    some ((IntKind.i64.wrap ((↑a0.length : Int) - (↑b1.length : Int)), ()), ())
  else
    (F108 (a0, ())).bind fun y =>
      (D115 (((), ()), ((y.2.1.1, ()), ()))).bind
        fun xs =>
        (g79_4 xs (((), (), ()), (b1, ()), (0, ()), ())).bind fun y =>
          Sum.elim (fun x' => some ((0, ()), ())) (fun z => some ((z.2.1.1, ()), ())) y : Option rs79.den) := by kernel_rfl
theorem F106_eq (x0 : Int) (y1 : Int) (borrow2 : Int) : F106 (x0, y1, borrow2, ()) = (
  some
    ((IntKind.u32.wrap (IntKind.u32.wrap (x0 - y1) - borrow2),
        (bitop BinOp.or IntKind.u32 (bitop BinOp.and IntKind.u32 (bitop BinOp.xor IntKind.u32 4294967295 x0) y1)
              (bitop BinOp.and IntKind.u32 (bitop BinOp.xor IntKind.u32 4294967295 (bitop BinOp.xor IntKind.u32 x0 y1))
                (IntKind.u32.wrap (IntKind.u32.wrap (x0 - y1) - borrow2)))).fdiv
          (2 ^ 31),
        ()),
      ()) : Option rs106.den) := by kernel_rfl
theorem F107_eq (x0 : Int) (y1 : Int) (carry2 : Int) : F107 (x0, y1, carry2, ()) = (
  some
    ((IntKind.u32.wrap
          (IntKind.u64.wrap (IntKind.u64.wrap (IntKind.u64.wrap x0 + IntKind.u64.wrap y1) + IntKind.u64.wrap carry2)),
        IntKind.u32.wrap
          ((IntKind.u64.wrap
                (IntKind.u64.wrap (IntKind.u64.wrap x0 + IntKind.u64.wrap y1) + IntKind.u64.wrap carry2)).fdiv
            (2 ^ 32)),
        ()),
      ()) : Option rs107.den) := by kernel_rfl
theorem S78_9_eq (a0 : List Int) (shift8 : Int) (v9 : List Int) (r0 : List Int) : S78_9 ((a0, shift8, v9, (), ()), (r0, ())) = (
  if decide ((↑r0.length : Int) ≤ (↑a0.length : Int)) = true then
    if r0.length + 1 ≤ 4294967296 then some (Sum.inl ((a0, shift8, v9, (), ()), r0 ++ [0], ())) else none
  else some (Sum.inr ((shift8, v9, (), ()), r0, ())) : Option (sh78_9.den ⊕ denX w78_9)) := by kernel_rfl
theorem S78_18_eq (shift8 : Int) (v9 : List Int) (n11 : Int) (j13 : Int) (guess15 : Int) (rest16 : Int) (r0 : List Int) (r1 : List Int) : S78_18 ((shift8, v9, (), n11, (), j13, guess15, rest16, ()), (r0, r1, ())) = (
  if decide (guess15 ≥ 4294967296) = true then
    if 0 ≤ IntKind.i64.wrap (n11 - 1) then
      if IntKind.i64.wrap (n11 - 1) < (↑v9.length : Int) then
        if
            decide
                (IntKind.u64.wrap (rest16 + IntKind.u64.wrap (v9.getD (IntKind.i64.wrap (n11 - 1)).toNat 0)) ≥
                  4294967296) =
              true then
          some (Sum.inr ((shift8, v9, (), n11, (), j13, IntKind.u64.wrap (guess15 - 1), ()), r0, r1, ()))
        else
          some
            (Sum.inl
              ((shift8, v9, (), n11, (), j13, IntKind.u64.wrap (guess15 - 1),
                  IntKind.u64.wrap (rest16 + IntKind.u64.wrap (v9.getD (IntKind.i64.wrap (n11 - 1)).toNat 0)), ()),
                r0, r1, ()))
      else none
    else none
  else
    if 0 ≤ IntKind.i64.wrap (n11 - 2) then
      if IntKind.i64.wrap (n11 - 2) < (↑v9.length : Int) then
        if 0 ≤ IntKind.i64.wrap (IntKind.i64.wrap (j13 + n11) - 2) then
          if IntKind.i64.wrap (IntKind.i64.wrap (j13 + n11) - 2) < (↑r0.length : Int) then
            if
                decide
                    (IntKind.u64.wrap (guess15 * IntKind.u64.wrap (v9.getD (IntKind.i64.wrap (n11 - 2)).toNat 0)) >
                      bitop BinOp.or IntKind.u64 (IntKind.u64.wrap (rest16 * 2 ^ 32))
                        (IntKind.u64.wrap (r0.getD (IntKind.i64.wrap (IntKind.i64.wrap (j13 + n11) - 2)).toNat 0))) =
                  true then
              if 0 ≤ IntKind.i64.wrap (n11 - 1) then
                if IntKind.i64.wrap (n11 - 1) < (↑v9.length : Int) then
                  if
                      decide
                          (IntKind.u64.wrap (rest16 + IntKind.u64.wrap (v9.getD (IntKind.i64.wrap (n11 - 1)).toNat 0)) ≥
                            4294967296) =
                        true then
                    some (Sum.inr ((shift8, v9, (), n11, (), j13, IntKind.u64.wrap (guess15 - 1), ()), r0, r1, ()))
                  else
                    some
                      (Sum.inl
                        ((shift8, v9, (), n11, (), j13, IntKind.u64.wrap (guess15 - 1),
                            IntKind.u64.wrap (rest16 + IntKind.u64.wrap (v9.getD (IntKind.i64.wrap (n11 - 1)).toNat 0)),
                            ()),
                          r0, r1, ()))
                else none
              else none
            else some (Sum.inr ((shift8, v9, (), n11, (), j13, guess15, ()), r0, r1, ()))
          else none
        else none
      else none
    else none : Option (sh78_18.den ⊕ denX w78_18)) := by kernel_rfl
theorem S78_24_eq (F106 : (SV.denL ps106) → Option (rs106).den) (shift8 : Int) (v9 : List Int) (n11 : Int) (j13 : Int) (guess15 : Int) (carry17 : Int) (borrow18 : Int) (t158 : List Int) (t159 : Int) (t160 : Int) (r0 : List Int) (r1 : List Int) : S78_24 F106 ((shift8, v9, (), n11, (), j13, guess15, carry17, borrow18, t158, t159, t160, ()), (r0, r1, ())) = (
  if decide (t160 < t159) = true then
    if 0 ≤ t160 then
      if t160 < (↑t158.length : Int) then
        if 0 ≤ IntKind.i64.wrap (t160 + j13) then
          if IntKind.i64.wrap (t160 + j13) < (↑r0.length : Int) then
            (F106
                  (r0.getD (IntKind.i64.wrap (t160 + j13)).toNat 0,
                    IntKind.u32.wrap
                      (IntKind.u64.wrap
                        (IntKind.u64.wrap (guess15 * IntKind.u64.wrap (t158.getD t160.toNat 0)) + carry17)),
                    borrow18, ())).bind
              fun y =>
              if 0 ≤ IntKind.i64.wrap (t160 + j13) then
                if IntKind.i64.wrap (t160 + j13) < (↑r0.length : Int) then
                  some
                    (Sum.inl
                      ((shift8, v9, (), n11, (), j13, guess15,
                          (IntKind.u64.wrap
                                (IntKind.u64.wrap (guess15 * IntKind.u64.wrap (t158.getD t160.toNat 0)) + carry17)).fdiv
                            (2 ^ 32),
                          y.1.2.1, t158, t159, IntKind.i64.wrap (t160 + 1), ()),
                        r0.set (IntKind.i64.wrap (t160 + j13)).toNat y.1.1, r1, ()))
                else none
              else none
          else none
        else none
      else none
    else none
  else some (Sum.inr ((shift8, v9, (), n11, (), j13, guess15, carry17, borrow18, ()), r0, r1, ())) : Option (sh78_24.den ⊕ denX w78_24)) := by kernel_rfl
theorem S78_35_eq (F107 : (SV.denL ps107) → Option (rs107).den) (shift8 : Int) (v9 : List Int) (n11 : Int) (j13 : Int) (guess15 : Int) (over22 : Int) (t214 : List Int) (t215 : Int) (t216 : Int) (r0 : List Int) (r1 : List Int) : S78_35 F107 ((shift8, v9, (), n11, (), j13, guess15, over22, t214, t215, t216, ()), (r0, r1, ())) = (
  if decide (t216 < t215) = true then
    if 0 ≤ t216 then
      if t216 < (↑t214.length : Int) then
        if 0 ≤ IntKind.i64.wrap (t216 + j13) then
          if IntKind.i64.wrap (t216 + j13) < (↑r0.length : Int) then
            (F107 (r0.getD (IntKind.i64.wrap (t216 + j13)).toNat 0, t214.getD t216.toNat 0, over22, ())).bind fun y =>
              if 0 ≤ IntKind.i64.wrap (t216 + j13) then
                if IntKind.i64.wrap (t216 + j13) < (↑r0.length : Int) then
                  some
                    (Sum.inl
                      ((shift8, v9, (), n11, (), j13, guess15, y.1.2.1, t214, t215, IntKind.i64.wrap (t216 + 1), ()),
                        r0.set (IntKind.i64.wrap (t216 + j13)).toNat y.1.1, r1, ()))
                else none
              else none
          else none
        else none
      else none
    else none
  else some (Sum.inr ((shift8, v9, (), n11, (), j13, guess15, over22, ()), r0, r1, ())) : Option (sh78_35.den ⊕ denX w78_35)) := by kernel_rfl
theorem S78_14_eq (F106 : (SV.denL ps106) → Option (rs106).den) (g78_18 : sh78_18.den → Option (denX w78_18)) (g78_24 : sh78_24.den → Option (denX w78_24)) (g78_35 : sh78_35.den → Option (denX w78_35)) (shift8 : Int) (v9 : List Int) (n11 : Int) (j13 : Int) (r0 : List Int) (r1 : List Int) : S78_14 F106 g78_18 g78_24 g78_35 ((shift8, v9, (), n11, (), j13, ()), (r0, r1, ())) = (
  if decide (j13 ≥ 0) = true then
    if 0 ≤ IntKind.i64.wrap (j13 + n11) then
      if IntKind.i64.wrap (j13 + n11) < (↑r0.length : Int) then
        if 0 ≤ IntKind.i64.wrap (IntKind.i64.wrap (j13 + n11) - 1) then
          if IntKind.i64.wrap (IntKind.i64.wrap (j13 + n11) - 1) < (↑r0.length : Int) then
            if 0 ≤ IntKind.i64.wrap (n11 - 1) then
              if IntKind.i64.wrap (n11 - 1) < (↑v9.length : Int) then
                if IntKind.u64.wrap (v9.getD (IntKind.i64.wrap (n11 - 1)).toNat 0) = 0 then none
                else
                  if 0 ≤ IntKind.i64.wrap (n11 - 1) then
                    if IntKind.i64.wrap (n11 - 1) < (↑v9.length : Int) then
                      if IntKind.u64.wrap (v9.getD (IntKind.i64.wrap (n11 - 1)).toNat 0) = 0 then none
                      else
                        (g78_18
                              ((shift8, v9, (), n11, (), j13,
                                  IntKind.u64.wrap
                                    ((bitop BinOp.or IntKind.u64
                                          (IntKind.u64.wrap
                                            (IntKind.u64.wrap (r0.getD (IntKind.i64.wrap (j13 + n11)).toNat 0) * 2 ^ 32))
                                          (IntKind.u64.wrap
                                            (r0.getD (IntKind.i64.wrap (IntKind.i64.wrap (j13 + n11) - 1)).toNat 0))).tdiv
                                      (IntKind.u64.wrap (v9.getD (IntKind.i64.wrap (n11 - 1)).toNat 0))),
                                  (bitop BinOp.or IntKind.u64
                                        (IntKind.u64.wrap
                                          (IntKind.u64.wrap (r0.getD (IntKind.i64.wrap (j13 + n11)).toNat 0) * 2 ^ 32))
                                        (IntKind.u64.wrap
                                          (r0.getD (IntKind.i64.wrap (IntKind.i64.wrap (j13 + n11) - 1)).toNat 0))).tmod
                                    (IntKind.u64.wrap (v9.getD (IntKind.i64.wrap (n11 - 1)).toNat 0)),
                                  ()),
                                r0, r1, ())).bind
                          fun y =>
                          (g78_24
                                ((y.1.1, y.1.2.1, (), y.1.2.2.2.1, (), y.1.2.2.2.2.2.1, y.1.2.2.2.2.2.2.1, 0, 0, y.1.2.1,
                                    (↑(List.length y.1.2.1) : Int), 0, ()),
                                  y.2.1, y.2.2.1, ())).bind
                            fun y =>
                            if 0 ≤ IntKind.i64.wrap (y.1.2.2.2.2.2.1 + y.1.2.2.2.1) then
                              if IntKind.i64.wrap (y.1.2.2.2.2.2.1 + y.1.2.2.2.1) < (↑(List.length y.2.1) : Int) then
                                (F106
                                      (List.getD y.2.1 (IntKind.i64.wrap (y.1.2.2.2.2.2.1 + y.1.2.2.2.1)).toNat 0,
                                        IntKind.u32.wrap y.1.2.2.2.2.2.2.2.1, y.1.2.2.2.2.2.2.2.2.1, ())).bind
                                  fun y_1 =>
                                  if 0 ≤ IntKind.i64.wrap (y.1.2.2.2.2.2.1 + y.1.2.2.2.1) then
                                    if
                                        IntKind.i64.wrap (y.1.2.2.2.2.2.1 + y.1.2.2.2.1) <
                                          (↑(List.length y.2.1) : Int) then
                                      if (!y_1.1.2.1 == 0) = true then
                                        (g78_35
                                              ((y.1.1, y.1.2.1, (), y.1.2.2.2.1, (), y.1.2.2.2.2.2.1,
                                                  IntKind.u64.wrap (y.1.2.2.2.2.2.2.1 - 1), 0, y.1.2.1,
                                                  (↑(List.length y.1.2.1) : Int), 0, ()),
                                                List.set y.2.1 (IntKind.i64.wrap (y.1.2.2.2.2.2.1 + y.1.2.2.2.1)).toNat
                                                  y_1.1.1,
                                                y.2.2.1, ())).bind
                                          fun y =>
                                          if 0 ≤ IntKind.i64.wrap (y.1.2.2.2.2.2.1 + y.1.2.2.2.1) then
                                            if
                                                IntKind.i64.wrap (y.1.2.2.2.2.2.1 + y.1.2.2.2.1) <
                                                  (↑(List.length y.2.1) : Int) then
                                              if 0 ≤ IntKind.i64.wrap (y.1.2.2.2.2.2.1 + y.1.2.2.2.1) then
                                                if
                                                    IntKind.i64.wrap (y.1.2.2.2.2.2.1 + y.1.2.2.2.1) <
                                                      (↑(List.length y.2.1) : Int) then
                                                  if 0 ≤ y.1.2.2.2.2.2.1 then
                                                    if y.1.2.2.2.2.2.1 < (↑(List.length y.2.2.1) : Int) then
                                                      some
                                                        (Sum.inl
                                                          ((y.1.1, y.1.2.1, (), y.1.2.2.2.1, (),
                                                              IntKind.i64.wrap (y.1.2.2.2.2.2.1 - 1), ()),
                                                            List.set y.2.1
                                                              (IntKind.i64.wrap (y.1.2.2.2.2.2.1 + y.1.2.2.2.1)).toNat
                                                              (IntKind.u32.wrap
                                                                (List.getD y.2.1
                                                                    (IntKind.i64.wrap
                                                                        (y.1.2.2.2.2.2.1 + y.1.2.2.2.1)).toNat
                                                                    0 +
                                                                  y.1.2.2.2.2.2.2.2.1)),
                                                            List.set y.2.2.1 (Int.toNat y.1.2.2.2.2.2.1)
                                                              (IntKind.u32.wrap y.1.2.2.2.2.2.2.1),
                                                            ()))
                                                    else none
                                                  else none
                                                else none
                                              else none
                                            else none
                                          else none
                                      else
                                        if 0 ≤ y.1.2.2.2.2.2.1 then
                                          if y.1.2.2.2.2.2.1 < (↑(List.length y.2.2.1) : Int) then
                                            some
                                              (Sum.inl
                                                ((y.1.1, y.1.2.1, (), y.1.2.2.2.1, (),
                                                    IntKind.i64.wrap (y.1.2.2.2.2.2.1 - 1), ()),
                                                  List.set y.2.1 (IntKind.i64.wrap (y.1.2.2.2.2.2.1 + y.1.2.2.2.1)).toNat
                                                    y_1.1.1,
                                                  List.set y.2.2.1 (Int.toNat y.1.2.2.2.2.2.1)
                                                    (IntKind.u32.wrap y.1.2.2.2.2.2.2.1),
                                                  ()))
                                          else none
                                        else none
                                    else none
                                  else none
                              else none
                            else none
                    else none
                  else none
              else none
            else none
          else none
        else none
      else none
    else none
  else some (Sum.inr ((shift8, (), (), ()), r0, r1, ())) : Option (sh78_14.den ⊕ denX w78_14)) := by kernel_rfl
theorem F78_eq (F58 : (SV.denL ps58) → Option (rs58).den) (F76 : (SV.denL ps76) → Option (rs76).den) (F77 : (SV.denL ps77) → Option (rs77).den) (F79 : (SV.denL ps79) → Option (rs79).den) (F96 : (SV.denL ps96) → Option (rs96).den) (F99 : (SV.denL ps99) → Option (rs99).den) (F100 : (SV.denL ps100) → Option (rs100).den) (F105 : (SV.denL ps105) → Option (rs105).den) (g78_9 : sh78_9.den → Option (denX w78_9)) (g78_14 : sh78_14.den → Option (denX w78_14)) (a0 : List Int) (b1 : List Int) : F78 F58 F76 F77 F79 F96 F99 F100 F105 g78_9 g78_14 (a0, b1, ()) = (
  (F79 (a0, b1, ())).bind fun y =>
    if decide (y.1.1 < 0) = true then (F105 (a0, ())).bind fun y => some (([], y.2.1, ()), ())
    else
      if ((↑b1.length : Int) == 1) = true then
        if 0 < (↑b1.length : Int) then
          (F99 (a0, b1.getD 0 0, ())).bind fun y => (F58 (y.1.2.1, ())).bind fun y_1 => some ((y.1.1, y_1.1.1, ()), ())
        else none
      else
        if 0 ≤ IntKind.i64.wrap ((↑b1.length : Int) - 1) then
          if IntKind.i64.wrap ((↑b1.length : Int) - 1) < (↑b1.length : Int) then
            (F100 (b1.getD (IntKind.i64.wrap ((↑b1.length : Int) - 1)).toNat 0, ())).bind fun y =>
              (F76 (b1, y.1.1, ())).bind fun y_1 =>
                (F76 (a0, y.1.1, ())).bind fun y_2 =>
                  (F105 (y_2.1.1, ())).bind fun y_3 =>
                    if List.length y_3.2.1 + 1 ≤ 4294967296 then
                      (g78_9 ((a0, y.1.1, y_1.1.1, (), ()), y_3.2.1 ++ [0], ())).bind fun y =>
                        if 0 ≤ IntKind.i64.wrap ((↑(List.length y.2.1) : Int) - (↑(List.length y.1.2.1) : Int)) then
                          if
                              IntKind.i64.wrap ((↑(List.length y.2.1) : Int) - (↑(List.length y.1.2.1) : Int)) ≤
                                IntKind.i64.wrap ((↑(List.length y.2.1) : Int) - (↑(List.length y.1.2.1) : Int)) then
                            if
                                IntKind.i64.wrap ((↑(List.length y.2.1) : Int) - (↑(List.length y.1.2.1) : Int)) ≤
                                  ((4294967296 : Nat) : Int) then
                              (g78_14
                                    ((y.1.1, y.1.2.1, (), (↑(List.length y.1.2.1) : Int), (),
                                        IntKind.i64.wrap
                                          (IntKind.i64.wrap
                                              ((↑(List.length y.2.1) : Int) - (↑(List.length y.1.2.1) : Int)) -
                                            1),
                                        ()),
                                      y.2.1,
                                      List.replicate
                                        (IntKind.i64.wrap
                                            ((↑(List.length y.2.1) : Int) - (↑(List.length y.1.2.1) : Int))).toNat
                                        0,
                                      ())).bind
                                fun y =>
                                (F96 (y.2.1, ())).bind fun y_4 =>
                                  (F77 (y_4.1.1, y.1.1, ())).bind fun y_5 =>
                                    (F96 (y.2.2.1, ())).bind fun y => some ((y.1.1, y_5.1.1, ()), ())
                            else none
                          else none
                        else none
                    else none
          else none
        else none : Option rs78.den) := by kernel_rfl
theorem S109_3_eq (F22 : (SV.denL ps22) → Option (rs22).den) (t8 : List (Bool × List Int)) (t9 : Int) (t10 : Int) (r0 : List Int) : S109_3 F22 (((), (), t8, t9, t10, ()), (r0, ())) = (
  if decide (t10 < t9) = true then
    if 0 ≤ t10 then
      if t10 < (↑t8.length : Int) then
        (F22 (((t8.getD t10.toNat (false, [])).1, (t8.getD t10.toNat (false, [])).2), ())).bind fun y =>
          if r0.length + [y.1.1].length ≤ 4294967296 then
            some (Sum.inl (((), (), t8, t9, IntKind.i64.wrap (t10 + 1), ()), r0 ++ [y.1.1], ()))
          else none
      else none
    else none
  else some (Sum.inr (((), ()), r0, ())) : Option (sh109_3.den ⊕ denX w109_3)) := by kernel_rfl
theorem F109_eq (g109_3 : sh109_3.den → Option (denX w109_3)) (l0 : List (Bool × List Int)) : F109 g109_3 (l0, (), ()) = (
  (g109_3 (((), (), l0, (↑l0.length : Int), 0, ()), [], ())).bind fun y => some ((y.2.1, ()), ()) : Option rs109.den) := by kernel_rfl
theorem F85_eq (F52 : (SV.denL ps52) → Option (rs52).den) (F109 : (SV.denL ps109) → Option (rs109).den) (l0 : List (Bool × List Int)) : F85 F52 F109 (l0, ()) = (
  (F109 (l0, (), ())).bind fun y => (F52 (y.1.1, ())).bind fun y => some ((y.1.1, ()), ()) : Option rs85.den) := by kernel_rfl
theorem S110_4_eq (F71 : (SV.denL ps71) → Option (rs71).den) (F106 : (SV.denL ps106) → Option (rs106).den) (a0 : List Int) (b1 : List Int) (borrow6 : Int) (t12 : Int) (t13 : Int) (r0 : List Int) : S110_4 F71 F106 ((a0, b1, (), borrow6, t12, t13, ()), (r0, ())) = (
  if decide (t13 < t12) = true then
    if 0 ≤ t13 then
      if t13 < (↑a0.length : Int) then
        (F71 (b1, t13, ())).bind fun y =>
          (F106 (a0.getD t13.toNat 0, y.1.1, borrow6, ())).bind fun y =>
            if 0 ≤ t13 then
              if t13 < (↑r0.length : Int) then
                some (Sum.inl ((a0, b1, (), y.1.2.1, t12, IntKind.i64.wrap (t13 + 1), ()), r0.set t13.toNat y.1.1, ()))
              else none
            else none
      else none
    else none
  else some (Sum.inr (((), ()), r0, ())) : Option (sh110_4.den ⊕ denX w110_4)) := by kernel_rfl
theorem F110_eq (F96 : (SV.denL ps96) → Option (rs96).den) (g110_4 : sh110_4.den → Option (denX w110_4)) (a0 : List Int) (b1 : List Int) : F110 F96 g110_4 (a0, b1, ()) = (
  if (↑a0.length : Int) ≤ (↑a0.length : Int) then
    if (↑a0.length : Int) ≤ ((4294967296 : Nat) : Int) then
      (g110_4
            ((a0, b1, (), 0, (↑(List.replicate (↑a0.length : Int).toNat (0 : Int)).length : Int), 0, ()),
              List.replicate (↑a0.length : Int).toNat 0, ())).bind
        fun y => (F96 (y.2.1, ())).bind fun y => some ((y.1.1, ()), ())
    else none
  else none : Option rs110.den) := by kernel_rfl
theorem F87_eq (F59 : (SV.denL ps59) → Option (rs59).den) (F61 : (SV.denL ps61) → Option (rs61).den) (F63 : (SV.denL ps63) → Option (rs63).den) (F79 : (SV.denL ps79) → Option (rs79).den) (F110 : (SV.denL ps110) → Option (rs110).den) (a0_0 : Bool) (a0_1 : List Int) (b1_0 : Bool) (b1_1 : List Int) : F87 F59 F61 F63 F79 F110 ((a0_0, a0_1), (b1_0, b1_1), ()) = (
  (F63 ((a0_0, a0_1), ())).bind fun y =>
    (F63 ((b1_0, b1_1), ())).bind fun y_1 =>
      if (a0_0 == b1_0) = true then
        (F59 (y.1.1, y_1.1.1, ())).bind fun y => (F61 (a0_0, y.1.1, ())).bind fun y => some (((y.1.1.1, y.1.1.2), ()), ())
      else
        (F79 (y.1.1, y_1.1.1, ())).bind fun y_2 =>
          if decide (y_2.1.1 ≥ 0) = true then
            (F110 (y.1.1, y_1.1.1, ())).bind fun y =>
              (F61 (a0_0, y.1.1, ())).bind fun y => some (((y.1.1.1, y.1.1.2), ()), ())
          else
            (F110 (y_1.1.1, y.1.1, ())).bind fun y =>
              (F61 (b1_0, y.1.1, ())).bind fun y => some (((y.1.1.1, y.1.1.2), ()), ()) : Option rs87.den) := by kernel_rfl
theorem F88_eq (F61 : (SV.denL ps61) → Option (rs61).den) (F63 : (SV.denL ps63) → Option (rs63).den) (a0_0 : Bool) (a0_1 : List Int) : F88 F61 F63 ((a0_0, a0_1), ()) = (
  (F63 ((a0_0, a0_1), ())).bind fun y => (F61 (!a0_0, y.1.1, ())).bind fun y => some (((y.1.1.1, y.1.1.2), ()), ()) : Option rs88.den) := by kernel_rfl
theorem F89_eq (F57 : (SV.denL ps57) → Option (rs57).den) (F61 : (SV.denL ps61) → Option (rs61).den) (F63 : (SV.denL ps63) → Option (rs63).den) (a0_0 : Bool) (a0_1 : List Int) (b1_0 : Bool) (b1_1 : List Int) : F89 F57 F61 F63 ((a0_0, a0_1), (b1_0, b1_1), ()) = (
  (F63 ((a0_0, a0_1), ())).bind fun y =>
    (F63 ((b1_0, b1_1), ())).bind fun y_1 =>
      (F57 (y.1.1, y_1.1.1, ())).bind fun y =>
        (F61 (!a0_0 == b1_0, y.1.1, ())).bind fun y => some (((y.1.1.1, y.1.1.2), ()), ()) : Option rs89.den) := by kernel_rfl
theorem F86_eq (F87 : (SV.denL ps87) → Option (rs87).den) (F88 : (SV.denL ps88) → Option (rs88).den) (F89 : (SV.denL ps89) → Option (rs89).den) (x0_0 : Bool) (x0_1 : List Int) (y1_0 : Bool) (y1_1 : List Int) (q2_0 : Bool) (q2_1 : List Int) : F86 F87 F88 F89 ((x0_0, x0_1), (y1_0, y1_1), (q2_0, q2_1), ()) = (
  (F89 ((q2_0, q2_1), (y1_0, y1_1), ())).bind fun y =>
    (F88 ((y.1.1.1, y.1.1.2), ())).bind fun y =>
      (F87 ((x0_0, x0_1), (y.1.1.1, y.1.1.2), ())).bind fun y => some (((y.1.1.1, y.1.1.2), ()), ()) : Option rs86.den) := by kernel_rfl
theorem F90_eq (F61 : (SV.denL ps61) → Option (rs61).den) (F63 : (SV.denL ps63) → Option (rs63).den) (F78 : (SV.denL ps78) → Option (rs78).den) (F87 : (SV.denL ps87) → Option (rs87).den) (a0_0 : Bool) (a0_1 : List Int) (b1_0 : Bool) (b1_1 : List Int) : F90 F61 F63 F78 F87 ((a0_0, a0_1), (b1_0, b1_1), ()) = (
  (F63 ((a0_0, a0_1), ())).bind fun y =>
    (F63 ((b1_0, b1_1), ())).bind fun y_1 =>
      (F78 (y.1.1, y_1.1.1, ())).bind fun y =>
        (F61 (!a0_0 == b1_0, y.1.1, ())).bind fun y_2 =>
          (F61 (a0_0, y.1.2.1, ())).bind fun y_3 =>
            if decide ((↑(List.length y.1.2.1) : Int) > 0) = true then
              if (!a0_0 == b1_0) = true then
                (F87 ((y_2.1.1.1, y_2.1.1.2), (true, [1]), ())).bind fun y =>
                  (F87 ((y_3.1.1.1, y_3.1.1.2), (b1_0, b1_1), ())).bind fun y_4 =>
                    some (((y.1.1.1, y.1.1.2), (y_4.1.1.1, y_4.1.1.2), ()), ())
              else some (((y_2.1.1.1, y_2.1.1.2), (y_3.1.1.1, y_3.1.1.2), ()), ())
            else some (((y_2.1.1.1, y_2.1.1.2), (y_3.1.1.1, y_3.1.1.2), ()), ()) : Option rs90.den) := by kernel_rfl
theorem S29_12_eq (F86 : (SV.denL ps86) → Option (rs86).den) (t58 : Int) (b0_0 : Bool) (b0_1 : List Int) (b1_0 : Bool) (b1_1 : List Int) (b2_0 : Bool) (b2_1 : List Int) (b3_0 : Bool) (b3_1 : List Int) (b3_2 : Bool) (b3_3 : List Int) (b4_0 : Bool) (b4_1 : List Int) (b4_2 : Bool) (b4_3 : List Int) (b4_4 : Bool) (b4_5 : List Int) (b5_0 : Bool) (b5_1 : List Int) (b5_2 : Bool) (b5_3 : List Int) (b5_4 : Bool) (b5_5 : List Int) (b6_0 : Bool) (b6_1 : List Int) (b7_0 : Bool) (b7_1 : List Int) (b7_2 : Bool) (b7_3 : List Int) (b7_4 : Bool) (b7_5 : List Int) : S29_12 F86 (((), (), (), (), (), (), (), (), (), t58, ()), ((b0_0, b0_1, ()), (b1_0, b1_1, ()), (b2_0, b2_1, ()), (b3_0, b3_1, b3_2, b3_3, ()), (b4_0, b4_1, b4_2, b4_3, b4_4, b4_5, ()), (b5_0, b5_1, b5_2, b5_3, b5_4, b5_5, ()), (b6_0, b6_1, ()), (b7_0, b7_1, b7_2, b7_3, b7_4, b7_5, ()), ())) = (
  if decide (t58 < 2) = true then
    if t58 = (↑0 : Int) then
      if t58 = (↑0 : Int) then
        (F86 ((b4_2, b4_3), (b5_2, b5_3), (b6_0, b6_1), ())).bind fun y =>
          if t58 = (↑0 : Int) then
            some
              (Sum.inl
                (((), (), (), (), (), (), (), (), (), IntKind.i64.wrap (t58 + 1), ()), (b0_0, b0_1, ()), (b1_0, b1_1, ()),
                  (b2_0, b2_1, ()), (b3_0, b3_1, b3_2, b3_3, ()), (b4_0, b4_1, b4_2, b4_3, b4_4, b4_5, ()),
                  (b5_0, b5_1, b5_2, b5_3, b5_4, b5_5, ()), (b6_0, b6_1, ()),
                  (b7_0, b7_1, y.1.1.1, y.1.1.2, b7_4, b7_5, ()), ()))
          else
            if t58 = (↑1 : Int) then
              some
                (Sum.inl
                  (((), (), (), (), (), (), (), (), (), IntKind.i64.wrap (t58 + 1), ()), (b0_0, b0_1, ()),
                    (b1_0, b1_1, ()), (b2_0, b2_1, ()), (b3_0, b3_1, b3_2, b3_3, ()),
                    (b4_0, b4_1, b4_2, b4_3, b4_4, b4_5, ()), (b5_0, b5_1, b5_2, b5_3, b5_4, b5_5, ()), (b6_0, b6_1, ()),
                    (b7_0, b7_1, b7_2, b7_3, y.1.1.1, y.1.1.2, ()), ()))
            else none
      else
        if t58 = (↑1 : Int) then
          (F86 ((b4_2, b4_3), (b5_4, b5_5), (b6_0, b6_1), ())).bind fun y =>
            if t58 = (↑0 : Int) then
              some
                (Sum.inl
                  (((), (), (), (), (), (), (), (), (), IntKind.i64.wrap (t58 + 1), ()), (b0_0, b0_1, ()),
                    (b1_0, b1_1, ()), (b2_0, b2_1, ()), (b3_0, b3_1, b3_2, b3_3, ()),
                    (b4_0, b4_1, b4_2, b4_3, b4_4, b4_5, ()), (b5_0, b5_1, b5_2, b5_3, b5_4, b5_5, ()), (b6_0, b6_1, ()),
                    (b7_0, b7_1, y.1.1.1, y.1.1.2, b7_4, b7_5, ()), ()))
            else
              if t58 = (↑1 : Int) then
                some
                  (Sum.inl
                    (((), (), (), (), (), (), (), (), (), IntKind.i64.wrap (t58 + 1), ()), (b0_0, b0_1, ()),
                      (b1_0, b1_1, ()), (b2_0, b2_1, ()), (b3_0, b3_1, b3_2, b3_3, ()),
                      (b4_0, b4_1, b4_2, b4_3, b4_4, b4_5, ()), (b5_0, b5_1, b5_2, b5_3, b5_4, b5_5, ()),
                      (b6_0, b6_1, ()), (b7_0, b7_1, b7_2, b7_3, y.1.1.1, y.1.1.2, ()), ()))
              else none
        else none
    else
      if t58 = (↑1 : Int) then
        if t58 = (↑0 : Int) then
          (F86 ((b4_4, b4_5), (b5_2, b5_3), (b6_0, b6_1), ())).bind fun y =>
            if t58 = (↑0 : Int) then
              some
                (Sum.inl
                  (((), (), (), (), (), (), (), (), (), IntKind.i64.wrap (t58 + 1), ()), (b0_0, b0_1, ()),
                    (b1_0, b1_1, ()), (b2_0, b2_1, ()), (b3_0, b3_1, b3_2, b3_3, ()),
                    (b4_0, b4_1, b4_2, b4_3, b4_4, b4_5, ()), (b5_0, b5_1, b5_2, b5_3, b5_4, b5_5, ()), (b6_0, b6_1, ()),
                    (b7_0, b7_1, y.1.1.1, y.1.1.2, b7_4, b7_5, ()), ()))
            else
              if t58 = (↑1 : Int) then
                some
                  (Sum.inl
                    (((), (), (), (), (), (), (), (), (), IntKind.i64.wrap (t58 + 1), ()), (b0_0, b0_1, ()),
                      (b1_0, b1_1, ()), (b2_0, b2_1, ()), (b3_0, b3_1, b3_2, b3_3, ()),
                      (b4_0, b4_1, b4_2, b4_3, b4_4, b4_5, ()), (b5_0, b5_1, b5_2, b5_3, b5_4, b5_5, ()),
                      (b6_0, b6_1, ()), (b7_0, b7_1, b7_2, b7_3, y.1.1.1, y.1.1.2, ()), ()))
              else none
        else
          if t58 = (↑1 : Int) then
            (F86 ((b4_4, b4_5), (b5_4, b5_5), (b6_0, b6_1), ())).bind fun y =>
              if t58 = (↑0 : Int) then
                some
                  (Sum.inl
                    (((), (), (), (), (), (), (), (), (), IntKind.i64.wrap (t58 + 1), ()), (b0_0, b0_1, ()),
                      (b1_0, b1_1, ()), (b2_0, b2_1, ()), (b3_0, b3_1, b3_2, b3_3, ()),
                      (b4_0, b4_1, b4_2, b4_3, b4_4, b4_5, ()), (b5_0, b5_1, b5_2, b5_3, b5_4, b5_5, ()),
                      (b6_0, b6_1, ()), (b7_0, b7_1, y.1.1.1, y.1.1.2, b7_4, b7_5, ()), ()))
              else
                if t58 = (↑1 : Int) then
                  some
                    (Sum.inl
                      (((), (), (), (), (), (), (), (), (), IntKind.i64.wrap (t58 + 1), ()), (b0_0, b0_1, ()),
                        (b1_0, b1_1, ()), (b2_0, b2_1, ()), (b3_0, b3_1, b3_2, b3_3, ()),
                        (b4_0, b4_1, b4_2, b4_3, b4_4, b4_5, ()), (b5_0, b5_1, b5_2, b5_3, b5_4, b5_5, ()),
                        (b6_0, b6_1, ()), (b7_0, b7_1, b7_2, b7_3, y.1.1.1, y.1.1.2, ()), ()))
                else none
          else none
      else none
  else
    some
      (Sum.inr
        (((), (), (), (), (), (), (), (), ()), (b0_0, b0_1, ()), (b1_0, b1_1, ()), (b2_0, b2_1, ()),
          (b3_0, b3_1, b3_2, b3_3, ()), (b4_0, b4_1, b4_2, b4_3, b4_4, b4_5, ()),
          (b5_0, b5_1, b5_2, b5_3, b5_4, b5_5, ()), (b7_0, b7_1, b7_2, b7_3, b7_4, b7_5, ()), ())) : Option (sh29_12.den ⊕ denX w29_12)) := by kernel_rfl
theorem S29_8_eq (F90 : (SV.denL ps90) → Option (rs90).den) (g29_12 : sh29_12.den → Option (denX w29_12)) (b0_0 : Bool) (b0_1 : List Int) (b1_0 : Bool) (b1_1 : List Int) (b2_0 : Bool) (b2_1 : List Int) (b3_0 : Bool) (b3_1 : List Int) (b3_2 : Bool) (b3_3 : List Int) (b4_0 : Bool) (b4_1 : List Int) (b4_2 : Bool) (b4_3 : List Int) (b4_4 : Bool) (b4_5 : List Int) (b5_0 : Bool) (b5_1 : List Int) (b5_2 : Bool) (b5_3 : List Int) (b5_4 : Bool) (b5_5 : List Int) : S29_8 F90 g29_12 (((), (), (), (), (), (), (), ()), ((b0_0, b0_1, ()), (b1_0, b1_1, ()), (b2_0, b2_1, ()), (b3_0, b3_1, b3_2, b3_3, ()), (b4_0, b4_1, b4_2, b4_3, b4_4, b4_5, ()), (b5_0, b5_1, b5_2, b5_3, b5_4, b5_5, ()), ())) = (
  if ((↑b5_1.length : Int) == 0) = true then
    some
      (Sum.inr
        (((), (), (), (), (), ()), (b0_0, b0_1, ()), (b1_0, b1_1, ()), (b2_0, b2_1, ()), (b3_0, b3_1, b3_2, b3_3, ()),
          (b4_0, b4_1, b4_2, b4_3, b4_4, b4_5, ()), ()))
  else
    (F90 ((b4_0, b4_1), (b5_0, b5_1), ())).bind fun y =>
      (g29_12
            (((), (), (), (), (), (), (), (), (), 0, ()), (b0_0, b0_1, ()), (b1_0, b1_1, ()), (b2_0, b2_1, ()),
              (b3_0, b3_1, b3_2, b3_3, ()), (b4_0, b4_1, b4_2, b4_3, b4_4, b4_5, ()),
              (b5_0, b5_1, b5_2, b5_3, b5_4, b5_5, ()), (y.1.1.1, y.1.1.2, ()),
              (y.1.2.1.1, y.1.2.1.2, false, [], false, [], ()), ())).bind
        fun y =>
        some
          (Sum.inl
            (((), (), (), (), (), (), (), ()), (y.2.1.1, y.2.1.2.1, ()), (y.2.2.1.1, y.2.2.1.2.1, ()),
              (y.2.2.2.1.1, y.2.2.2.1.2.1, ()),
              (y.2.2.2.2.1.1, y.2.2.2.2.1.2.1, y.2.2.2.2.1.2.2.1, y.2.2.2.2.1.2.2.2.1, ()),
              (y.2.2.2.2.2.2.1.1, y.2.2.2.2.2.2.1.2.1, y.2.2.2.2.2.2.1.2.2.1, y.2.2.2.2.2.2.1.2.2.2.1,
                y.2.2.2.2.2.2.1.2.2.2.2.1, y.2.2.2.2.2.2.1.2.2.2.2.2.1, ()),
              (y.2.2.2.2.2.2.2.1.1, y.2.2.2.2.2.2.2.1.2.1, y.2.2.2.2.2.2.2.1.2.2.1, y.2.2.2.2.2.2.2.1.2.2.2.1,
                y.2.2.2.2.2.2.2.1.2.2.2.2.1, y.2.2.2.2.2.2.2.1.2.2.2.2.2.1, ()),
              ())) : Option (sh29_8.den ⊕ denX w29_8)) := by kernel_rfl
theorem S29_18_eq (F88 : (SV.denL ps88) → Option (rs88).den) (t80_0_0 : Bool) (t80_0_1 : List Int) (t80_1 : Bool) (t80_2 : List Int) (t81 : Int) (b0_0 : Bool) (b0_1 : List Int) (b1_0 : Bool) (b1_1 : List Int) (b1_2 : Bool) (b1_3 : List Int) (b2_0 : Bool) (b2_1 : List Int) (b2_2 : Bool) (b2_3 : List Int) (b2_4 : Bool) (b2_5 : List Int) : S29_18 F88 (((), (), (), ((t80_0_0, t80_0_1), t80_1, t80_2), t81, ()), ((b0_0, b0_1, ()), (b1_0, b1_1, b1_2, b1_3, ()), (b2_0, b2_1, b2_2, b2_3, b2_4, b2_5, ()), ())) = (
  if decide (t81 < 2) = true then
    if t81 = (↑0 : Int) then
      if t80_0_0 = true then
        if t81 = (↑0 : Int) then
          (F88 ((b2_2, b2_3), ())).bind fun y =>
            if t81 = (↑0 : Int) then
              if t81 = (↑0 : Int) then
                if decide ((↑(List.length y.1.1.2) : Int) > 200) = true then
                  some (Sum.inr (Sum.inl (((), (), 4, ()), (false, [], ()), (false, [], false, [], ()), ())))
                else
                  some
                    (Sum.inl
                      (((), (), (), ((t80_0_0, t80_0_1), t80_1, t80_2), IntKind.i64.wrap (t81 + 1), ()), (b0_0, b0_1, ()),
                        (b1_0, b1_1, b1_2, b1_3, ()), (b2_0, b2_1, y.1.1.1, y.1.1.2, b2_4, b2_5, ()), ()))
              else
                if t81 = (↑1 : Int) then
                  if decide ((↑b2_5.length : Int) > 200) = true then
                    some (Sum.inr (Sum.inl (((), (), 4, ()), (false, [], ()), (false, [], false, [], ()), ())))
                  else
                    some
                      (Sum.inl
                        (((), (), (), ((t80_0_0, t80_0_1), t80_1, t80_2), IntKind.i64.wrap (t81 + 1), ()),
                          (b0_0, b0_1, ()), (b1_0, b1_1, b1_2, b1_3, ()), (b2_0, b2_1, y.1.1.1, y.1.1.2, b2_4, b2_5, ()),
                          ()))
                else none
            else
              if t81 = (↑1 : Int) then
                if t81 = (↑0 : Int) then
                  if decide ((↑b2_3.length : Int) > 200) = true then
                    some (Sum.inr (Sum.inl (((), (), 4, ()), (false, [], ()), (false, [], false, [], ()), ())))
                  else
                    some
                      (Sum.inl
                        (((), (), (), ((t80_0_0, t80_0_1), t80_1, t80_2), IntKind.i64.wrap (t81 + 1), ()),
                          (b0_0, b0_1, ()), (b1_0, b1_1, b1_2, b1_3, ()), (b2_0, b2_1, b2_2, b2_3, y.1.1.1, y.1.1.2, ()),
                          ()))
                else
                  if t81 = (↑1 : Int) then
                    if decide ((↑(List.length y.1.1.2) : Int) > 200) = true then
                      some (Sum.inr (Sum.inl (((), (), 4, ()), (false, [], ()), (false, [], false, [], ()), ())))
                    else
                      some
                        (Sum.inl
                          (((), (), (), ((t80_0_0, t80_0_1), t80_1, t80_2), IntKind.i64.wrap (t81 + 1), ()),
                            (b0_0, b0_1, ()), (b1_0, b1_1, b1_2, b1_3, ()),
                            (b2_0, b2_1, b2_2, b2_3, y.1.1.1, y.1.1.2, ()), ()))
                  else none
              else none
        else
          if t81 = (↑1 : Int) then
            (F88 ((b2_4, b2_5), ())).bind fun y =>
              if t81 = (↑0 : Int) then
                if t81 = (↑0 : Int) then
                  if decide ((↑(List.length y.1.1.2) : Int) > 200) = true then
                    some (Sum.inr (Sum.inl (((), (), 4, ()), (false, [], ()), (false, [], false, [], ()), ())))
                  else
                    some
                      (Sum.inl
                        (((), (), (), ((t80_0_0, t80_0_1), t80_1, t80_2), IntKind.i64.wrap (t81 + 1), ()),
                          (b0_0, b0_1, ()), (b1_0, b1_1, b1_2, b1_3, ()), (b2_0, b2_1, y.1.1.1, y.1.1.2, b2_4, b2_5, ()),
                          ()))
                else
                  if t81 = (↑1 : Int) then
                    if decide ((↑b2_5.length : Int) > 200) = true then
                      some (Sum.inr (Sum.inl (((), (), 4, ()), (false, [], ()), (false, [], false, [], ()), ())))
                    else
                      some
                        (Sum.inl
                          (((), (), (), ((t80_0_0, t80_0_1), t80_1, t80_2), IntKind.i64.wrap (t81 + 1), ()),
                            (b0_0, b0_1, ()), (b1_0, b1_1, b1_2, b1_3, ()),
                            (b2_0, b2_1, y.1.1.1, y.1.1.2, b2_4, b2_5, ()), ()))
                  else none
              else
                if t81 = (↑1 : Int) then
                  if t81 = (↑0 : Int) then
                    if decide ((↑b2_3.length : Int) > 200) = true then
                      some (Sum.inr (Sum.inl (((), (), 4, ()), (false, [], ()), (false, [], false, [], ()), ())))
                    else
                      some
                        (Sum.inl
                          (((), (), (), ((t80_0_0, t80_0_1), t80_1, t80_2), IntKind.i64.wrap (t81 + 1), ()),
                            (b0_0, b0_1, ()), (b1_0, b1_1, b1_2, b1_3, ()),
                            (b2_0, b2_1, b2_2, b2_3, y.1.1.1, y.1.1.2, ()), ()))
                  else
                    if t81 = (↑1 : Int) then
                      if decide ((↑(List.length y.1.1.2) : Int) > 200) = true then
                        some (Sum.inr (Sum.inl (((), (), 4, ()), (false, [], ()), (false, [], false, [], ()), ())))
                      else
                        some
                          (Sum.inl
                            (((), (), (), ((t80_0_0, t80_0_1), t80_1, t80_2), IntKind.i64.wrap (t81 + 1), ()),
                              (b0_0, b0_1, ()), (b1_0, b1_1, b1_2, b1_3, ()),
                              (b2_0, b2_1, b2_2, b2_3, y.1.1.1, y.1.1.2, ()), ()))
                    else none
                else none
          else none
      else
        if t81 = (↑0 : Int) then
          if decide ((↑b2_3.length : Int) > 200) = true then
            some (Sum.inr (Sum.inl (((), (), 4, ()), (false, [], ()), (false, [], false, [], ()), ())))
          else
            some
              (Sum.inl
                (((), (), (), ((t80_0_0, t80_0_1), t80_1, t80_2), IntKind.i64.wrap (t81 + 1), ()), (b0_0, b0_1, ()),
                  (b1_0, b1_1, b1_2, b1_3, ()), (b2_0, b2_1, b2_2, b2_3, b2_4, b2_5, ()), ()))
        else
          if t81 = (↑1 : Int) then
            if decide ((↑b2_5.length : Int) > 200) = true then
              some (Sum.inr (Sum.inl (((), (), 4, ()), (false, [], ()), (false, [], false, [], ()), ())))
            else
              some
                (Sum.inl
                  (((), (), (), ((t80_0_0, t80_0_1), t80_1, t80_2), IntKind.i64.wrap (t81 + 1), ()), (b0_0, b0_1, ()),
                    (b1_0, b1_1, b1_2, b1_3, ()), (b2_0, b2_1, b2_2, b2_3, b2_4, b2_5, ()), ()))
          else none
    else
      if t81 = (↑1 : Int) then
        if t80_1 = true then
          if t81 = (↑0 : Int) then
            (F88 ((b2_2, b2_3), ())).bind fun y =>
              if t81 = (↑0 : Int) then
                if t81 = (↑0 : Int) then
                  if decide ((↑(List.length y.1.1.2) : Int) > 200) = true then
                    some (Sum.inr (Sum.inl (((), (), 4, ()), (false, [], ()), (false, [], false, [], ()), ())))
                  else
                    some
                      (Sum.inl
                        (((), (), (), ((t80_0_0, t80_0_1), t80_1, t80_2), IntKind.i64.wrap (t81 + 1), ()),
                          (b0_0, b0_1, ()), (b1_0, b1_1, b1_2, b1_3, ()), (b2_0, b2_1, y.1.1.1, y.1.1.2, b2_4, b2_5, ()),
                          ()))
                else
                  if t81 = (↑1 : Int) then
                    if decide ((↑b2_5.length : Int) > 200) = true then
                      some (Sum.inr (Sum.inl (((), (), 4, ()), (false, [], ()), (false, [], false, [], ()), ())))
                    else
                      some
                        (Sum.inl
                          (((), (), (), ((t80_0_0, t80_0_1), t80_1, t80_2), IntKind.i64.wrap (t81 + 1), ()),
                            (b0_0, b0_1, ()), (b1_0, b1_1, b1_2, b1_3, ()),
                            (b2_0, b2_1, y.1.1.1, y.1.1.2, b2_4, b2_5, ()), ()))
                  else none
              else
                if t81 = (↑1 : Int) then
                  if t81 = (↑0 : Int) then
                    if decide ((↑b2_3.length : Int) > 200) = true then
                      some (Sum.inr (Sum.inl (((), (), 4, ()), (false, [], ()), (false, [], false, [], ()), ())))
                    else
                      some
                        (Sum.inl
                          (((), (), (), ((t80_0_0, t80_0_1), t80_1, t80_2), IntKind.i64.wrap (t81 + 1), ()),
                            (b0_0, b0_1, ()), (b1_0, b1_1, b1_2, b1_3, ()),
                            (b2_0, b2_1, b2_2, b2_3, y.1.1.1, y.1.1.2, ()), ()))
                  else
                    if t81 = (↑1 : Int) then
                      if decide ((↑(List.length y.1.1.2) : Int) > 200) = true then
                        some (Sum.inr (Sum.inl (((), (), 4, ()), (false, [], ()), (false, [], false, [], ()), ())))
                      else
                        some
                          (Sum.inl
                            (((), (), (), ((t80_0_0, t80_0_1), t80_1, t80_2), IntKind.i64.wrap (t81 + 1), ()),
                              (b0_0, b0_1, ()), (b1_0, b1_1, b1_2, b1_3, ()),
                              (b2_0, b2_1, b2_2, b2_3, y.1.1.1, y.1.1.2, ()), ()))
                    else none
                else none
          else
            if t81 = (↑1 : Int) then
              (F88 ((b2_4, b2_5), ())).bind fun y =>
                if t81 = (↑0 : Int) then
                  if t81 = (↑0 : Int) then
                    if decide ((↑(List.length y.1.1.2) : Int) > 200) = true then
                      some (Sum.inr (Sum.inl (((), (), 4, ()), (false, [], ()), (false, [], false, [], ()), ())))
                    else
                      some
                        (Sum.inl
                          (((), (), (), ((t80_0_0, t80_0_1), t80_1, t80_2), IntKind.i64.wrap (t81 + 1), ()),
                            (b0_0, b0_1, ()), (b1_0, b1_1, b1_2, b1_3, ()),
                            (b2_0, b2_1, y.1.1.1, y.1.1.2, b2_4, b2_5, ()), ()))
                  else
                    if t81 = (↑1 : Int) then
                      if decide ((↑b2_5.length : Int) > 200) = true then
                        some (Sum.inr (Sum.inl (((), (), 4, ()), (false, [], ()), (false, [], false, [], ()), ())))
                      else
                        some
                          (Sum.inl
                            (((), (), (), ((t80_0_0, t80_0_1), t80_1, t80_2), IntKind.i64.wrap (t81 + 1), ()),
                              (b0_0, b0_1, ()), (b1_0, b1_1, b1_2, b1_3, ()),
                              (b2_0, b2_1, y.1.1.1, y.1.1.2, b2_4, b2_5, ()), ()))
                    else none
                else
                  if t81 = (↑1 : Int) then
                    if t81 = (↑0 : Int) then
                      if decide ((↑b2_3.length : Int) > 200) = true then
                        some (Sum.inr (Sum.inl (((), (), 4, ()), (false, [], ()), (false, [], false, [], ()), ())))
                      else
                        some
                          (Sum.inl
                            (((), (), (), ((t80_0_0, t80_0_1), t80_1, t80_2), IntKind.i64.wrap (t81 + 1), ()),
                              (b0_0, b0_1, ()), (b1_0, b1_1, b1_2, b1_3, ()),
                              (b2_0, b2_1, b2_2, b2_3, y.1.1.1, y.1.1.2, ()), ()))
                    else
                      if t81 = (↑1 : Int) then
                        if decide ((↑(List.length y.1.1.2) : Int) > 200) = true then
                          some (Sum.inr (Sum.inl (((), (), 4, ()), (false, [], ()), (false, [], false, [], ()), ())))
                        else
                          some
                            (Sum.inl
                              (((), (), (), ((t80_0_0, t80_0_1), t80_1, t80_2), IntKind.i64.wrap (t81 + 1), ()),
                                (b0_0, b0_1, ()), (b1_0, b1_1, b1_2, b1_3, ()),
                                (b2_0, b2_1, b2_2, b2_3, y.1.1.1, y.1.1.2, ()), ()))
                      else none
                  else none
            else none
        else
          if t81 = (↑0 : Int) then
            if decide ((↑b2_3.length : Int) > 200) = true then
              some (Sum.inr (Sum.inl (((), (), 4, ()), (false, [], ()), (false, [], false, [], ()), ())))
            else
              some
                (Sum.inl
                  (((), (), (), ((t80_0_0, t80_0_1), t80_1, t80_2), IntKind.i64.wrap (t81 + 1), ()), (b0_0, b0_1, ()),
                    (b1_0, b1_1, b1_2, b1_3, ()), (b2_0, b2_1, b2_2, b2_3, b2_4, b2_5, ()), ()))
          else
            if t81 = (↑1 : Int) then
              if decide ((↑b2_5.length : Int) > 200) = true then
                some (Sum.inr (Sum.inl (((), (), 4, ()), (false, [], ()), (false, [], false, [], ()), ())))
              else
                some
                  (Sum.inl
                    (((), (), (), ((t80_0_0, t80_0_1), t80_1, t80_2), IntKind.i64.wrap (t81 + 1), ()), (b0_0, b0_1, ()),
                      (b1_0, b1_1, b1_2, b1_3, ()), (b2_0, b2_1, b2_2, b2_3, b2_4, b2_5, ()), ()))
            else none
      else none
  else
    some
      (Sum.inr
        (Sum.inr
          (((), (), (), ()), (b0_0, b0_1, ()), (b1_0, b1_1, b1_2, b1_3, ()), (b2_0, b2_1, b2_2, b2_3, b2_4, b2_5, ()),
            ()))) : Option (sh29_18.den ⊕ denX w29_18)) := by kernel_rfl
theorem F29_eq (F58 : (SV.denL ps58) → Option (rs58).den) (F61 : (SV.denL ps61) → Option (rs61).den) (F63 : (SV.denL ps63) → Option (rs63).den) (F85 : (SV.denL ps85) → Option (rs85).den) (g29_8 : sh29_8.den → Option (denX w29_8)) (g29_18 : sh29_18.den → Option (denX w29_18)) (a0_0 : Bool) (a0_1 : List Int) (b1_0 : Bool) (b1_1 : List Int) : F29 F58 F61 F63 F85 g29_8 g29_18 ((a0_0, a0_1), (b1_0, b1_1), ()) = (
  (F85 ([(a0_0, a0_1), (b1_0, b1_1)], ())).bind fun y =>
    if (!y.1.1 == 0) = true then some (((false, []), ((false, []), false, []), y.1.1, ()), ())
    else
      (F58 (1, ())).bind fun y =>
        (F61 (false, y.1.1, ())).bind fun y =>
          (F63 ((a0_0, a0_1), ())).bind fun y_1 =>
            (F61 (false, y_1.1.1, ())).bind fun y_2 =>
              (F63 ((b1_0, b1_1), ())).bind fun y_3 =>
                (F61 (false, y_3.1.1, ())).bind fun y_4 =>
                  (g29_8
                        (((), (), (), (), (), (), (), ()), (a0_0, a0_1, ()), (b1_0, b1_1, ()), (false, [], ()),
                          (false, [], false, [], ()), (y_2.1.1.1, y_2.1.1.2, y.1.1.1, y.1.1.2, false, [], ()),
                          (y_4.1.1.1, y_4.1.1.2, false, [], y.1.1.1, y.1.1.2, ()), ())).bind
                    fun y =>
                    (g29_18
                          (((), (), (), ((y.2.1.1, y.2.1.2.1), y.2.2.1.1, y.2.2.1.2.1), 0, ()),
                            (y.2.2.2.1.1, y.2.2.2.1.2.1, ()),
                            (y.2.2.2.2.1.1, y.2.2.2.2.1.2.1, y.2.2.2.2.1.2.2.1, y.2.2.2.2.1.2.2.2.1, ()),
                            (y.2.2.2.2.2.1.1, y.2.2.2.2.2.1.2.1, y.2.2.2.2.2.1.2.2.1, y.2.2.2.2.2.1.2.2.2.1,
                              y.2.2.2.2.2.1.2.2.2.2.1, y.2.2.2.2.2.1.2.2.2.2.2.1, ()),
                            ())).bind
                      fun y =>
                      Sum.elim
                        (fun y =>
                          some
                            (((y.2.1.1, y.2.1.2.1), ((y.2.2.1.1, y.2.2.1.2.1), y.2.2.1.2.2.1, y.2.2.1.2.2.2.1), y.1.2.2.1,
                                ()),
                              ()))
                        (fun z =>
                          some
                            (((z.2.2.2.1.1, z.2.2.2.1.2.1),
                                ((z.2.2.2.1.2.2.1, z.2.2.2.1.2.2.2.1), z.2.2.2.1.2.2.2.2.1, z.2.2.2.1.2.2.2.2.2.1), 0,
                                ()),
                              ()))
                        y : Option rs29.den) := by kernel_rfl
theorem S31_7_eq (F89 : (SV.denL ps89) → Option (rs89).den) (F90 : (SV.denL ps90) → Option (rs90).den) (i13 : Int) (b0_0 : Bool) (b0_1 : List Int) (b1_0 : Bool) (b1_1 : List Int) (b2_0 : Bool) (b2_1 : List Int) (b3_0 : Bool) (b3_1 : List Int) (b4_0 : Bool) (b4_1 : List Int) : S31_7 F89 F90 (((), (), (), (), (), i13, ()), ((b0_0, b0_1, ()), (b1_0, b1_1, ()), (b2_0, b2_1, ()), (b3_0, b3_1, ()), (b4_0, b4_1, ()), ())) = (
  if decide (i13 ≥ 0) = true then
    (F89 ((b4_0, b4_1), (b4_0, b4_1), ())).bind fun y =>
      (F90 ((y.1.1.1, y.1.1.2), (b1_0, b1_1), ())).bind fun y =>
        if 0 ≤ IntKind.i64.wrap (i13.tdiv 32) then
          if IntKind.i64.wrap (i13.tdiv 32) < (↑b0_1.length : Int) then
            if i13.tmod 32 < 0 then none
            else
              if
                  (bitop BinOp.and IntKind.u32
                        (Int.fdiv (b0_1.getD (IntKind.i64.wrap (i13.tdiv 32)).toNat 0) (2 ^ min (i13.tmod 32).toNat 32))
                        1 ==
                      1) =
                    true then
                (F89 ((y.1.2.1.1, y.1.2.1.2), (b3_0, b3_1), ())).bind fun y =>
                  (F90 ((y.1.1.1, y.1.1.2), (b1_0, b1_1), ())).bind fun y =>
                    some
                      (Sum.inl
                        (((), (), (), (), (), IntKind.i64.wrap (i13 - 1), ()), (b0_0, b0_1, ()), (b1_0, b1_1, ()),
                          (b2_0, b2_1, ()), (b3_0, b3_1, ()), (y.1.2.1.1, y.1.2.1.2, ()), ()))
              else
                some
                  (Sum.inl
                    (((), (), (), (), (), IntKind.i64.wrap (i13 - 1), ()), (b0_0, b0_1, ()), (b1_0, b1_1, ()),
                      (b2_0, b2_1, ()), (b3_0, b3_1, ()), (y.1.2.1.1, y.1.2.1.2, ()), ()))
          else none
        else none
  else some (Sum.inr (((), (), ()), (b2_0, b2_1, ()), (b4_0, b4_1, ()), ())) : Option (sh31_7.den ⊕ denX w31_7)) := by kernel_rfl
theorem F31_eq (F52 : (SV.denL ps52) → Option (rs52).den) (F53 : (SV.denL ps53) → Option (rs53).den) (F58 : (SV.denL ps58) → Option (rs58).den) (F61 : (SV.denL ps61) → Option (rs61).den) (F63 : (SV.denL ps63) → Option (rs63).den) (F69 : (SV.denL ps69) → Option (rs69).den) (F85 : (SV.denL ps85) → Option (rs85).den) (F90 : (SV.denL ps90) → Option (rs90).den) (g31_7 : sh31_7.den → Option (denX w31_7)) (a0_0 : Bool) (a0_1 : List Int) (n1_0 : Bool) (n1_1 : List Int) (m2_0 : Bool) (m2_1 : List Int) : F31 F52 F53 F58 F61 F63 F69 F85 F90 g31_7 ((a0_0, a0_1), (n1_0, n1_1), (m2_0, m2_1), ()) = (
  (F85 ([(a0_0, a0_1), (n1_0, n1_1), (m2_0, m2_1)], ())).bind fun y =>
    (F53 (n1_0, 3, ())).bind fun y_1 =>
      if m2_0 = true then
        (F53 (true, 34, ())).bind fun y_2 =>
          (F53 (decide ((↑n1_1.length : Int) > 8), 4, ())).bind fun y_3 =>
            (F52 ([y.1.1, y_1.1.1, y_2.1.1, y_3.1.1], ())).bind fun y =>
              if (!y.1.1 == 0) = true then some (((false, []), y.1.1, ()), ())
              else
                (F90 ((a0_0, a0_1), (m2_0, m2_1), ())).bind fun y =>
                  (F58 (1, ())).bind fun y_4 =>
                    (F61 (false, y_4.1.1, ())).bind fun y_5 =>
                      (F90 ((y_5.1.1.1, y_5.1.1.2), (m2_0, m2_1), ())).bind fun y_6 =>
                        (F63 ((n1_0, n1_1), ())).bind fun y_7 =>
                          (F69 (y_7.1.1, ())).bind fun y_8 =>
                            (g31_7
                                  (((), (), (), (), (), IntKind.i64.wrap (y_8.1.1 - 1), ()), (n1_0, n1_1, ()),
                                    (m2_0, m2_1, ()), (false, [], ()), (y.1.2.1.1, y.1.2.1.2, ()),
                                    (y_6.1.2.1.1, y_6.1.2.1.2, ()), ())).bind
                              fun y => some (((y.2.2.1.1, y.2.2.1.2.1), 0, ()), ())
      else
        (F53 ((↑m2_1.length : Int) == 0, 34, ())).bind fun y_2 =>
          (F53 (decide ((↑n1_1.length : Int) > 8), 4, ())).bind fun y_3 =>
            (F52 ([y.1.1, y_1.1.1, y_2.1.1, y_3.1.1], ())).bind fun y =>
              if (!y.1.1 == 0) = true then some (((false, []), y.1.1, ()), ())
              else
                (F90 ((a0_0, a0_1), (m2_0, m2_1), ())).bind fun y =>
                  (F58 (1, ())).bind fun y_4 =>
                    (F61 (false, y_4.1.1, ())).bind fun y_5 =>
                      (F90 ((y_5.1.1.1, y_5.1.1.2), (m2_0, m2_1), ())).bind fun y_6 =>
                        (F63 ((n1_0, n1_1), ())).bind fun y_7 =>
                          (F69 (y_7.1.1, ())).bind fun y_8 =>
                            (g31_7
                                  (((), (), (), (), (), IntKind.i64.wrap (y_8.1.1 - 1), ()), (n1_0, n1_1, ()),
                                    (m2_0, m2_1, ()), (false, [], ()), (y.1.2.1.1, y.1.2.1.2, ()),
                                    (y_6.1.2.1.1, y_6.1.2.1.2, ()), ())).bind
                              fun y => some (((y.2.2.1.1, y.2.2.1.2.1), 0, ()), ()) : Option rs31.den) := by kernel_rfl
theorem F39_eq (F52 : (SV.denL ps52) → Option (rs52).den) (F53 : (SV.denL ps53) → Option (rs53).den) (F85 : (SV.denL ps85) → Option (rs85).den) (F90 : (SV.denL ps90) → Option (rs90).den) (a0_0 : Bool) (a0_1 : List Int) (b1_0 : Bool) (b1_1 : List Int) : F39 F52 F53 F85 F90 ((a0_0, a0_1), (b1_0, b1_1), ()) = (
  (F85 ([(a0_0, a0_1), (b1_0, b1_1)], ())).bind fun y =>
    (F53 ((↑b1_1.length : Int) == 0, 34, ())).bind fun y_1 =>
      (F52 ([y.1.1, y_1.1.1], ())).bind fun y =>
        if (!y.1.1 == 0) = true then some (((false, []), (false, []), y.1.1, ()), ())
        else
          (F90 ((a0_0, a0_1), (b1_0, b1_1), ())).bind fun y =>
            (F53 (decide ((↑(List.length y.1.1.2) : Int) > 200), 4, ())).bind fun y_2 =>
              (F53 (decide ((↑(List.length y.1.2.1.2) : Int) > 200), 4, ())).bind fun y_3 =>
                (F52 ([y_2.1.1, y_3.1.1], ())).bind fun y_4 =>
                  if (!y_4.1.1 == 0) = true then some (((false, []), (false, []), y_4.1.1, ()), ())
                  else some (((y.1.1.1, y.1.1.2), (y.1.2.1.1, y.1.2.1.2), 0, ()), ()) : Option rs39.den) := by kernel_rfl
theorem F45_eq (n0 : Int) : F45 (n0, ()) = (
  if decide (n0 < 0) = true then
    if decide (IntKind.i64.wrap (0 - n0) > 0) = true then
      some (((decide (n0 < 0), [IntKind.u32.wrap (IntKind.i64.wrap (0 - n0))]), ()), ())
    else some (((decide (n0 < 0), []), ()), ())
  else
    if decide (n0 > 0) = true then some (((decide (n0 < 0), [IntKind.u32.wrap n0]), ()), ())
    else some (((decide (n0 < 0), []), ()), ()) : Option rs45.den) := by kernel_rfl
theorem S14_2_eq (most0 : Int) (t7 : List (Bool × List Int)) (t8 : Int) (t9 : Int) : S14_2 ((most0, t7, t8, t9, ()), ()) = (
  if decide (t9 < t8) = true then
    if 0 ≤ t9 then
      if t9 < (↑t7.length : Int) then
        if decide ((↑(List.length (t7.getD t9.toNat (false, [])).2) : Int) > most0) = true then
          if (!(↑(List.length (t7.getD t9.toNat (false, [])).2) : Int) == 201) = true then
            some (Sum.inr (Sum.inl ((false, ()), ())))
          else some (Sum.inl ((most0, t7, t8, IntKind.i64.wrap (t9 + 1), ()), ()))
        else some (Sum.inl ((most0, t7, t8, IntKind.i64.wrap (t9 + 1), ()), ()))
      else none
    else none
  else some (Sum.inr (Sum.inr ((), ()))) : Option (sh14_2.den ⊕ denX w14_2)) := by kernel_rfl
theorem F14_eq (g14_2 : sh14_2.den → Option (denX w14_2)) (most0 : Int) (l1 : List (Bool × List Int)) : F14 g14_2 (most0, l1, ()) = (
  (g14_2 ((most0, l1, (↑l1.length : Int), 0, ()), ())).bind fun y =>
    Sum.elim (fun y => some ((y.1.1, ()), ())) (fun z => some ((true, ()), ())) y : Option rs14.den) := by kernel_rfl
theorem F72_eq (is0 : Bool) (e1 : Int) : F72 (is0, e1, ()) = (
  if is0 = true then some ((e1, ()), ()) else some ((0, ()), ()) : Option rs72.den) := by kernel_rfl
theorem F23_eq (F72 : (SV.denL ps72) → Option (rs72).den) (a0_0 : Bool) (a0_1 : List Int) : F23 F72 ((a0_0, a0_1), ()) = (
  if decide ((↑a0_1.length : Int) > 200) = true then some ((5, ()), ())
  else
    if ((↑a0_1.length : Int) == 0) = true then
      if a0_0 = true then (F72 (true, 1, ())).bind fun y => some ((y.1.1, ()), ())
      else
        if decide ((↑a0_1.length : Int) > 0) = true then
          if 0 ≤ IntKind.i64.wrap ((↑a0_1.length : Int) - 1) then
            if IntKind.i64.wrap ((↑a0_1.length : Int) - 1) < (↑a0_1.length : Int) then
              (F72 (a0_1.getD (IntKind.i64.wrap ((↑a0_1.length : Int) - 1)).toNat 0 == 0, 1, ())).bind fun y =>
                some ((y.1.1, ()), ())
            else none
          else none
        else (F72 (false, 1, ())).bind fun y => some ((y.1.1, ()), ())
    else
      if decide ((↑a0_1.length : Int) > 0) = true then
        if 0 ≤ IntKind.i64.wrap ((↑a0_1.length : Int) - 1) then
          if IntKind.i64.wrap ((↑a0_1.length : Int) - 1) < (↑a0_1.length : Int) then
            (F72 (a0_1.getD (IntKind.i64.wrap ((↑a0_1.length : Int) - 1)).toNat 0 == 0, 1, ())).bind fun y =>
              some ((y.1.1, ()), ())
          else none
        else none
      else (F72 (false, 1, ())).bind fun y => some ((y.1.1, ()), ()) : Option rs23.den) := by kernel_rfl
theorem F66_eq (a0_0 : Bool) (a0_1 : List Int) : F66 ((a0_0, a0_1), ()) = (
  if a0_1.length ≤ 4294967296 then some (((a0_0, a0_1), ()), ()) else none : Option rs66.den) := by kernel_rfl
theorem F17_eq (F66 : (SV.denL ps66) → Option (rs66).den) (a0_0 : Bool) (a0_1 : List Int) : F17 F66 ((a0_0, a0_1), ()) = (
  (F66 ((a0_0, a0_1), ())).bind fun y => some (((y.1.1.1, y.1.1.2), ()), ()) : Option rs17.den) := by kernel_rfl
theorem F33_eq (F75 : (SV.denL ps75) → Option (rs75).den) (F85 : (SV.denL ps85) → Option (rs85).den) (F87 : (SV.denL ps87) → Option (rs87).den) (a0_0 : Bool) (a0_1 : List Int) (b1_0 : Bool) (b1_1 : List Int) : F33 F75 F85 F87 ((a0_0, a0_1), (b1_0, b1_1), ()) = (
  (F85 ([(a0_0, a0_1), (b1_0, b1_1)], ())).bind fun y =>
    if (!y.1.1 == 0) = true then some (((false, []), y.1.1, ()), ())
    else
      (F87 ((a0_0, a0_1), (b1_0, b1_1), ())).bind fun y =>
        (F75 ((y.1.1.1, y.1.1.2), ())).bind fun y => some (((y.1.1.1, y.1.1.2), y.1.2.1, ()), ()) : Option rs33.den) := by kernel_rfl
theorem F35_eq (F75 : (SV.denL ps75) → Option (rs75).den) (F85 : (SV.denL ps85) → Option (rs85).den) (F87 : (SV.denL ps87) → Option (rs87).den) (F88 : (SV.denL ps88) → Option (rs88).den) (a0_0 : Bool) (a0_1 : List Int) (b1_0 : Bool) (b1_1 : List Int) : F35 F75 F85 F87 F88 ((a0_0, a0_1), (b1_0, b1_1), ()) = (
  (F85 ([(a0_0, a0_1), (b1_0, b1_1)], ())).bind fun y =>
    if (!y.1.1 == 0) = true then some (((false, []), y.1.1, ()), ())
    else
      (F88 ((b1_0, b1_1), ())).bind fun y =>
        (F87 ((a0_0, a0_1), (y.1.1.1, y.1.1.2), ())).bind fun y =>
          (F75 ((y.1.1.1, y.1.1.2), ())).bind fun y => some (((y.1.1.1, y.1.1.2), y.1.2.1, ()), ()) : Option rs35.den) := by kernel_rfl
theorem F37_eq (F75 : (SV.denL ps75) → Option (rs75).den) (F85 : (SV.denL ps85) → Option (rs85).den) (F89 : (SV.denL ps89) → Option (rs89).den) (a0_0 : Bool) (a0_1 : List Int) (b1_0 : Bool) (b1_1 : List Int) : F37 F75 F85 F89 ((a0_0, a0_1), (b1_0, b1_1), ()) = (
  (F85 ([(a0_0, a0_1), (b1_0, b1_1)], ())).bind fun y =>
    if (!y.1.1 == 0) = true then some (((false, []), y.1.1, ()), ())
    else
      (F89 ((a0_0, a0_1), (b1_0, b1_1), ())).bind fun y =>
        (F75 ((y.1.1.1, y.1.1.2), ())).bind fun y => some (((y.1.1.1, y.1.1.2), y.1.2.1, ()), ()) : Option rs37.den) := by kernel_rfl
theorem F41_eq (F85 : (SV.denL ps85) → Option (rs85).den) (F87 : (SV.denL ps87) → Option (rs87).den) (F88 : (SV.denL ps88) → Option (rs88).den) (a0_0 : Bool) (a0_1 : List Int) (b1_0 : Bool) (b1_1 : List Int) : F41 F85 F87 F88 ((a0_0, a0_1), (b1_0, b1_1), ()) = (
  (F85 ([(a0_0, a0_1), (b1_0, b1_1)], ())).bind fun y =>
    if (!y.1.1 == 0) = true then some ((0, y.1.1, ()), ())
    else
      (F88 ((b1_0, b1_1), ())).bind fun y =>
        (F87 ((a0_0, a0_1), (y.1.1.1, y.1.1.2), ())).bind fun y =>
          if ((↑(List.length y.1.1.2) : Int) == 0) = true then some ((0, 0, ()), ())
          else if y.1.1.1 = true then some ((-1, 0, ()), ()) else some ((1, 0, ()), ()) : Option rs41.den) := by kernel_rfl
theorem F42_eq (F12 : (SV.denL ps12) → Option (rs12).den) (F13 : (SV.denL ps13) → Option (rs13).den) (F17 : (SV.denL ps17) → Option (rs17).den) (F33 : (SV.denL ps33) → Option (rs33).den) (F35 : (SV.denL ps35) → Option (rs35).den) (F37 : (SV.denL ps37) → Option (rs37).den) (a0_0 : Bool) (a0_1 : List Int) (b1_0 : Bool) (b1_1 : List Int) (c2_0 : Bool) (c2_1 : List Int) : F42 F12 F13 F17 F33 F35 F37 ((a0_0, a0_1), (b1_0, b1_1), (c2_0, c2_1), ()) = (
  (F17 ((a0_0, a0_1), ())).bind fun y =>
    (F17 ((b1_0, b1_1), ())).bind fun y_1 =>
      (F33 ((y.1.1.1, y.1.1.2), (y_1.1.1.1, y_1.1.1.2), ())).bind fun y =>
        (F17 ((b1_0, b1_1), ())).bind fun y_2 =>
          (F17 ((a0_0, a0_1), ())).bind fun y_3 =>
            (F33 ((y_2.1.1.1, y_2.1.1.2), (y_3.1.1.1, y_3.1.1.2), ())).bind fun y_4 =>
              (F17 ((a0_0, a0_1), ())).bind fun y_5 =>
                (F17 ((b1_0, b1_1), ())).bind fun y_6 =>
                  (F37 ((y_5.1.1.1, y_5.1.1.2), (y_6.1.1.1, y_6.1.1.2), ())).bind fun y_7 =>
                    (F17 ((b1_0, b1_1), ())).bind fun y_8 =>
                      (F17 ((a0_0, a0_1), ())).bind fun y_9 =>
                        (F37 ((y_8.1.1.1, y_8.1.1.2), (y_9.1.1.1, y_9.1.1.2), ())).bind fun y_10 =>
                          (F17 ((c2_0, c2_1), ())).bind fun y_11 =>
                            (F37 ((y.1.1.1, y.1.1.2), (y_11.1.1.1, y_11.1.1.2), ())).bind fun y_12 =>
                              (F17 ((a0_0, a0_1), ())).bind fun y_13 =>
                                (F17 ((c2_0, c2_1), ())).bind fun y_14 =>
                                  (F37 ((y_13.1.1.1, y_13.1.1.2), (y_14.1.1.1, y_14.1.1.2), ())).bind fun y_15 =>
                                    (F17 ((b1_0, b1_1), ())).bind fun y_16 =>
                                      (F17 ((c2_0, c2_1), ())).bind fun y_17 =>
                                        (F37 ((y_16.1.1.1, y_16.1.1.2), (y_17.1.1.1, y_17.1.1.2), ())).bind fun y_18 =>
                                          (F33 ((y_15.1.1.1, y_15.1.1.2), (y_18.1.1.1, y_18.1.1.2), ())).bind fun y_19 =>
                                            (F17 ((c2_0, c2_1), ())).bind fun y_20 =>
                                              (F37 ((y_7.1.1.1, y_7.1.1.2), (y_20.1.1.1, y_20.1.1.2), ())).bind
                                                fun y_21 =>
                                                (F17 ((a0_0, a0_1), ())).bind fun y_22 =>
                                                  (F37 ((y_22.1.1.1, y_22.1.1.2), (y_18.1.1.1, y_18.1.1.2), ())).bind
                                                    fun y_23 =>
                                                    (F17 ((b1_0, b1_1), ())).bind fun y_24 =>
                                                      (F35 ((y.1.1.1, y.1.1.2), (y_24.1.1.1, y_24.1.1.2), ())).bind
                                                        fun y_25 =>
                                                        if
                                                            (IntKind.i64.wrap
                                                                  (IntKind.i64.wrap
                                                                      (IntKind.i64.wrap
                                                                          (IntKind.i64.wrap
                                                                              (IntKind.i64.wrap
                                                                                  (IntKind.i64.wrap
                                                                                      (IntKind.i64.wrap
                                                                                          (IntKind.i64.wrap
                                                                                              (IntKind.i64.wrap
                                                                                                  (IntKind.i64.wrap
                                                                                                      (y.1.2.1 +
                                                                                                        y_4.1.2.1) +
                                                                                                    y_7.1.2.1) +
                                                                                                y_10.1.2.1) +
                                                                                            y_12.1.2.1) +
                                                                                        y_15.1.2.1) +
                                                                                    y_18.1.2.1) +
                                                                                y_19.1.2.1) +
                                                                            y_21.1.2.1) +
                                                                        y_23.1.2.1) +
                                                                    y_25.1.2.1) ==
                                                                0) =
                                                              true then
                                                          (F13 ((y.1.1.1, y.1.1.2), ())).bind fun y =>
                                                            (F13 ((y_4.1.1.1, y_4.1.1.2), ())).bind fun y_26 =>
                                                              (F12
                                                                    ((y.1.1.1, y.1.1.2), (y_26.1.1.1, y_26.1.1.2),
                                                                      ())).bind
                                                                fun y =>
                                                                if y.1.1 = true then
                                                                  (F13 ((y_7.1.1.1, y_7.1.1.2), ())).bind fun y =>
                                                                    (F13 ((y_10.1.1.1, y_10.1.1.2), ())).bind fun y_27 =>
                                                                      (F12
                                                                            ((y.1.1.1, y.1.1.2), (y_27.1.1.1, y_27.1.1.2),
                                                                              ())).bind
                                                                        fun y =>
                                                                        if y.1.1 = true then
                                                                          (F13 ((y_12.1.1.1, y_12.1.1.2), ())).bind
                                                                            fun y =>
                                                                            (F13 ((y_19.1.1.1, y_19.1.1.2), ())).bind
                                                                              fun y_28 =>
                                                                              (F12
                                                                                    ((y.1.1.1, y.1.1.2),
                                                                                      (y_28.1.1.1, y_28.1.1.2), ())).bind
                                                                                fun y =>
                                                                                if y.1.1 = true then
                                                                                  (F13
                                                                                        ((y_21.1.1.1, y_21.1.1.2),
                                                                                          ())).bind
                                                                                    fun y =>
                                                                                    (F13
                                                                                          ((y_23.1.1.1, y_23.1.1.2),
                                                                                            ())).bind
                                                                                      fun y_29 =>
                                                                                      (F12
                                                                                            ((y.1.1.1, y.1.1.2),
                                                                                              (y_29.1.1.1, y_29.1.1.2),
                                                                                              ())).bind
                                                                                        fun y =>
                                                                                        if y.1.1 = true then
                                                                                          (F13
                                                                                                ((y_25.1.1.1, y_25.1.1.2),
                                                                                                  ())).bind
                                                                                            fun y =>
                                                                                            (F12
                                                                                                  ((y.1.1.1, y.1.1.2),
                                                                                                    (a0_0, a0_1),
                                                                                                    ())).bind
                                                                                              fun y =>
                                                                                              some ((y.1.1, ()), ())
                                                                                        else some ((false, ()), ())
                                                                                else some ((false, ()), ())
                                                                        else some ((false, ()), ())
                                                                else some ((false, ()), ())
                                                        else some ((false, ()), ()) : Option rs42.den) := by kernel_rfl
theorem F43_eq (F12 : (SV.denL ps12) → Option (rs12).den) (F13 : (SV.denL ps13) → Option (rs13).den) (F17 : (SV.denL ps17) → Option (rs17).den) (F29 : (SV.denL ps29) → Option (rs29).den) (F33 : (SV.denL ps33) → Option (rs33).den) (F37 : (SV.denL ps37) → Option (rs37).den) (F39 : (SV.denL ps39) → Option (rs39).den) (a0_0 : Bool) (a0_1 : List Int) (b1_0 : Bool) (b1_1 : List Int) : F43 F12 F13 F17 F29 F33 F37 F39 ((a0_0, a0_1), (b1_0, b1_1), ()) = (
  (F17 ((a0_0, a0_1), ())).bind fun y =>
    (F17 ((b1_0, b1_1), ())).bind fun y_1 =>
      (F29 ((y.1.1.1, y.1.1.2), (y_1.1.1.1, y_1.1.1.2), ())).bind fun y =>
        if (!y.1.2.2.1 == 0) = true then some ((false, ()), ())
        else
          if y.1.1.1 = true then some ((false, ()), ())
          else
            (F17 ((a0_0, a0_1), ())).bind fun y_2 =>
              (F37 ((y.1.2.1.1.1, y.1.2.1.1.2), (y_2.1.1.1, y_2.1.1.2), ())).bind fun y_3 =>
                (F17 ((b1_0, b1_1), ())).bind fun y_4 =>
                  (F37 ((y.1.2.1.2.1, y.1.2.1.2.2), (y_4.1.1.1, y_4.1.1.2), ())).bind fun y_5 =>
                    (F33 ((y_3.1.1.1, y_3.1.1.2), (y_5.1.1.1, y_5.1.1.2), ())).bind fun y_6 =>
                      if (!IntKind.i64.wrap (IntKind.i64.wrap (y_3.1.2.1 + y_5.1.2.1) + y_6.1.2.1) == 0) = true then
                        some ((false, ()), ())
                      else
                        (F13 ((y_6.1.1.1, y_6.1.1.2), ())).bind fun y_7 =>
                          (F13 ((y.1.1.1, y.1.1.2), ())).bind fun y_8 =>
                            (F12 ((y_7.1.1.1, y_7.1.1.2), (y_8.1.1.1, y_8.1.1.2), ())).bind fun y_9 =>
                              if (!y_9.1.1) = true then some ((false, ()), ())
                              else
                                if ((↑(List.length y.1.1.2) : Int) == 0) = true then
                                  if ((↑a0_1.length : Int) == 0) = true then some (((↑b1_1.length : Int) == 0, ()), ())
                                  else some ((false, ()), ())
                                else
                                  (F17 ((a0_0, a0_1), ())).bind fun y_10 =>
                                    (F39 ((y_10.1.1.1, y_10.1.1.2), (y.1.1.1, y.1.1.2), ())).bind fun y_11 =>
                                      (F17 ((b1_0, b1_1), ())).bind fun y_12 =>
                                        (F39 ((y_12.1.1.1, y_12.1.1.2), (y.1.1.1, y.1.1.2), ())).bind fun y =>
                                          if (IntKind.i64.wrap (y_11.1.2.2.1 + y.1.2.2.1) == 0) = true then
                                            if ((↑(List.length y_11.1.2.1.2) : Int) == 0) = true then
                                              some (((↑(List.length y.1.2.1.2) : Int) == 0, ()), ())
                                            else some ((false, ()), ())
                                          else some ((false, ()), ()) : Option rs43.den) := by kernel_rfl
theorem F44_eq (F12 : (SV.denL ps12) → Option (rs12).den) (F13 : (SV.denL ps13) → Option (rs13).den) (F17 : (SV.denL ps17) → Option (rs17).den) (F31 : (SV.denL ps31) → Option (rs31).den) (F33 : (SV.denL ps33) → Option (rs33).den) (F37 : (SV.denL ps37) → Option (rs37).den) (F39 : (SV.denL ps39) → Option (rs39).den) (F45 : (SV.denL ps45) → Option (rs45).den) (a0_0 : Bool) (a0_1 : List Int) (b1_0 : Bool) (b1_1 : List Int) (c2_0 : Bool) (c2_1 : List Int) : F44 F12 F13 F17 F31 F33 F37 F39 F45 ((a0_0, a0_1), (b1_0, b1_1), (c2_0, c2_1), ()) = (
  if b1_0 = true then some ((true, ()), ())
  else
    if c2_0 = true then some ((true, ()), ())
    else
      if ((↑c2_1.length : Int) == 0) = true then some ((true, ()), ())
      else
        if decide ((↑b1_1.length : Int) > 7) = true then some ((true, ()), ())
        else
          (F17 ((b1_0, b1_1), ())).bind fun y =>
            (F45 (1, ())).bind fun y_1 =>
              (F33 ((y.1.1.1, y.1.1.2), (y_1.1.1.1, y_1.1.1.2), ())).bind fun y =>
                (F17 ((a0_0, a0_1), ())).bind fun y_2 =>
                  (F17 ((b1_0, b1_1), ())).bind fun y_3 =>
                    (F17 ((c2_0, c2_1), ())).bind fun y_4 =>
                      (F31 ((y_2.1.1.1, y_2.1.1.2), (y_3.1.1.1, y_3.1.1.2), (y_4.1.1.1, y_4.1.1.2), ())).bind fun y_5 =>
                        (F17 ((a0_0, a0_1), ())).bind fun y_6 =>
                          (F17 ((c2_0, c2_1), ())).bind fun y_7 =>
                            (F31 ((y_6.1.1.1, y_6.1.1.2), (y.1.1.1, y.1.1.2), (y_7.1.1.1, y_7.1.1.2), ())).bind fun y_8 =>
                              (F17 ((a0_0, a0_1), ())).bind fun y_9 =>
                                (F37 ((y_5.1.1.1, y_5.1.1.2), (y_9.1.1.1, y_9.1.1.2), ())).bind fun y_10 =>
                                  (F17 ((c2_0, c2_1), ())).bind fun y_11 =>
                                    (F39 ((y_10.1.1.1, y_10.1.1.2), (y_11.1.1.1, y_11.1.1.2), ())).bind fun y_12 =>
                                      if
                                          (IntKind.i64.wrap
                                                (IntKind.i64.wrap
                                                    (IntKind.i64.wrap
                                                        (IntKind.i64.wrap (y.1.2.1 + y_5.1.2.1) + y_8.1.2.1) +
                                                      y_10.1.2.1) +
                                                  y_12.1.2.2.1) ==
                                              0) =
                                            true then
                                        (F13 ((y_8.1.1.1, y_8.1.1.2), ())).bind fun y =>
                                          (F13 ((y_12.1.2.1.1, y_12.1.2.1.2), ())).bind fun y_13 =>
                                            (F12 ((y.1.1.1, y.1.1.2), (y_13.1.1.1, y_13.1.1.2), ())).bind fun y =>
                                              some ((y.1.1, ()), ())
                                      else some ((false, ()), ()) : Option rs44.den) := by kernel_rfl
end Go.Proofs.Rf
/- The tables of math/bits: lengths and counts of ones. -/
namespace Go.Proofs.Rf
open Go Go.RowKit
def len8 : List UInt8 := [0, 1, 2, 2, 3, 3, 3, 3, 4, 4, 4, 4, 4, 4, 4, 4, 5, 5, 5, 5, 5, 5, 5, 5, 5, 5, 5, 5, 5, 5, 5, 5, 6, 6, 6, 6, 6, 6, 6, 6, 6, 6, 6, 6, 6, 6, 6, 6, 6, 6, 6, 6, 6, 6, 6, 6, 6, 6, 6, 6, 6, 6, 6, 6, 7, 7, 7, 7, 7, 7, 7, 7, 7, 7, 7, 7, 7, 7, 7, 7, 7, 7, 7, 7, 7, 7, 7, 7, 7, 7, 7, 7, 7, 7, 7, 7, 7, 7, 7, 7, 7, 7, 7, 7, 7, 7, 7, 7, 7, 7, 7, 7, 7, 7, 7, 7, 7, 7, 7, 7, 7, 7, 7, 7, 7, 7, 7, 7, 8, 8, 8, 8, 8, 8, 8, 8, 8, 8, 8, 8, 8, 8, 8, 8, 8, 8, 8, 8, 8, 8, 8, 8, 8, 8, 8, 8, 8, 8, 8, 8, 8, 8, 8, 8, 8, 8, 8, 8, 8, 8, 8, 8, 8, 8, 8, 8, 8, 8, 8, 8, 8, 8, 8, 8, 8, 8, 8, 8, 8, 8, 8, 8, 8, 8, 8, 8, 8, 8, 8, 8, 8, 8, 8, 8, 8, 8, 8, 8, 8, 8, 8, 8, 8, 8, 8, 8, 8, 8, 8, 8, 8, 8, 8, 8, 8, 8, 8, 8, 8, 8, 8, 8, 8, 8, 8, 8, 8, 8, 8, 8, 8, 8, 8, 8, 8, 8, 8, 8, 8, 8, 8, 8, 8, 8, 8, 8]
theorem F113_eq (x : Int) : F113 (x, ()) = (
  if decide (x ≥ 65536) = true then
    if decide (x.fdiv (2 ^ 16) ≥ 256) = true then
    if 0 ≤ IntKind.u8.wrap ((x.fdiv (2 ^ 16)).fdiv (2 ^ 8)) then
      if IntKind.u8.wrap ((x.fdiv (2 ^ 16)).fdiv (2 ^ 8)) < ((256 : Nat) : Int) then
        some ((IntKind.i64.wrap ((IntKind.i64.wrap (16 + 8)) + IntKind.i64.wrap ((len8.getD (IntKind.u8.wrap ((x.fdiv (2 ^ 16)).fdiv (2 ^ 8))).toNat 0).toNat : Int)), ()), ())
      else none
    else none
    else
    if 0 ≤ IntKind.u8.wrap (x.fdiv (2 ^ 16)) then
      if IntKind.u8.wrap (x.fdiv (2 ^ 16)) < ((256 : Nat) : Int) then
        some ((IntKind.i64.wrap (16 + IntKind.i64.wrap ((len8.getD (IntKind.u8.wrap (x.fdiv (2 ^ 16))).toNat 0).toNat : Int)), ()), ())
      else none
    else none
  else
    if decide (x ≥ 256) = true then
    if 0 ≤ IntKind.u8.wrap (x.fdiv (2 ^ 8)) then
      if IntKind.u8.wrap (x.fdiv (2 ^ 8)) < ((256 : Nat) : Int) then
        some ((IntKind.i64.wrap ((IntKind.i64.wrap (0 + 8)) + IntKind.i64.wrap ((len8.getD (IntKind.u8.wrap (x.fdiv (2 ^ 8))).toNat 0).toNat : Int)), ()), ())
      else none
    else none
    else
    if 0 ≤ IntKind.u8.wrap (x) then
      if IntKind.u8.wrap (x) < ((256 : Nat) : Int) then
        some ((IntKind.i64.wrap (0 + IntKind.i64.wrap ((len8.getD (IntKind.u8.wrap (x)).toNat 0).toNat : Int)), ()), ())
      else none
    else none : Option rs113.den) := by kernel_rfl
end Go.Proofs.Rf
/- Bits of numbers; what math/bits' functions come to. -/
namespace Go.Proofs.Rf
open Go Go.RowKit

theorem ofInt_toNat (n x : Nat) (h : x < 2 ^ n) : (BitVec.ofInt n (x : Int)).toNat = x := by
  rw [BitVec.ofInt_natCast, BitVec.toNat_ofNat, Nat.mod_eq_of_lt h]

theorem and32 {x y : Nat} (hx : x < 4294967296) (hy : y < 4294967296) : bitop .and .u32 (x : Int) (y : Int) = ((x &&& y : Nat) : Int) := by
  show IntKind.u32.wrap ((((BitVec.ofInt 32 (x : Int)) &&& (BitVec.ofInt 32 (y : Int))).toNat : Nat) : Int) = _
  rw [BitVec.toNat_and, ofInt_toNat 32 x hx, ofInt_toNat 32 y hy]
  have := @Nat.and_le_left x y
  exact w32 (by omega) (by omega)

theorem or32 {x y : Nat} (hx : x < 4294967296) (hy : y < 4294967296) : bitop .or .u32 (x : Int) (y : Int) = ((x ||| y : Nat) : Int) := by
  show IntKind.u32.wrap ((((BitVec.ofInt 32 (x : Int)) ||| (BitVec.ofInt 32 (y : Int))).toNat : Nat) : Int) = _
  rw [BitVec.toNat_or, ofInt_toNat 32 x hx, ofInt_toNat 32 y hy]
  have := @Nat.or_lt_two_pow x y 32 hx hy
  exact w32 (by omega) (by omega)

theorem or64 {x y : Nat} (hx : x < 18446744073709551616) (hy : y < 18446744073709551616) : bitop .or .u64 (x : Int) (y : Int) = ((x ||| y : Nat) : Int) := by
  show IntKind.u64.wrap ((((BitVec.ofInt 64 (x : Int)) ||| (BitVec.ofInt 64 (y : Int))).toNat : Nat) : Int) = _
  rw [BitVec.toNat_or, ofInt_toNat 64 x hx, ofInt_toNat 64 y hy]
  have := @Nat.or_lt_two_pow x y 64 hx hy
  exact w64 (by omega) (by omega)

/-- A high part and a low part. -/
theorem or_parts {h l k : Nat} (hl : l < 2 ^ k) : h * 2 ^ k ||| l = h * 2 ^ k + l := by
  rw [Nat.mul_comm, Nat.two_pow_add_eq_or_of_lt hl]

theorem fdiv_pow (x : Nat) (k : Nat) : Int.fdiv (x : Int) (2 ^ k) = ((x / 2 ^ k : Nat) : Int) := by
  have h : (2 : Int) ^ k = ((2 ^ k : Nat) : Int) := by simp
  rw [h, Int.fdiv_eq_ediv_of_nonneg _ (Int.natCast_nonneg _)]
  simp

/-- The number of bits. -/
def bl (x : Nat) : Nat := if x = 0 then 0 else Nat.log2 x + 1

theorem bl_lt (x : Nat) : x < 2 ^ bl x := by
  unfold bl
  split
  · omega
  · exact Nat.lt_log2_self
theorem bl_le {x : Nat} (h : x ≠ 0) : 2 ^ (bl x - 1) ≤ x := by
  unfold bl
  rw [if_neg h]
  exact Nat.log2_self_le h
theorem bl_pos {x : Nat} (h : x ≠ 0) : 0 < bl x := by
  unfold bl
  rw [if_neg h]
  omega
/-- What the number of bits is known by. -/
theorem bl_eq {x k : Nat} (h0 : 2 ^ k ≤ x) (h1 : x < 2 ^ (k + 1)) : bl x = k + 1 := by
  have hp : 0 < 2 ^ k := Nat.two_pow_pos k
  have hx : x ≠ 0 := by omega
  have a := bl_lt x
  have b := bl_le hx
  have c := bl_pos hx
  have p1 : k < bl x := (Nat.pow_lt_pow_iff_right (by decide : 1 < 2)).1 (Nat.lt_of_le_of_lt h0 a)
  have p2 : bl x - 1 < k + 1 := (Nat.pow_lt_pow_iff_right (by decide : 1 < 2)).1 (Nat.lt_of_le_of_lt b h1)
  omega
theorem bl_le_of {x k : Nat} (h : x < 2 ^ k) : bl x ≤ k := by
  by_cases hx : x = 0
  · subst hx; simp [bl]
  · have b := bl_le hx
    have := (Nat.pow_lt_pow_iff_right (by decide : 1 < 2)).1 (Nat.lt_of_le_of_lt b h)
    omega
theorem bl_shift {x k : Nat} (h : x / 2 ^ k ≠ 0) : bl x = bl (x / 2 ^ k) + k := by
  have a := bl_lt (x / 2 ^ k)
  have b := bl_le h
  have c := bl_pos h
  obtain ⟨m, hm⟩ : ∃ m, bl (x / 2 ^ k) = m + 1 := ⟨bl (x / 2 ^ k) - 1, by omega⟩
  rw [hm] at a b
  simp only [Nat.add_sub_cancel] at b
  have hp : 0 < 2 ^ k := Nat.two_pow_pos k
  rw [hm, show m + 1 + k = (m + k) + 1 by omega]
  refine bl_eq ?_ ?_
  · rw [Nat.pow_add]
    exact (Nat.le_div_iff_mul_le hp).1 b
  · rw [show m + k + 1 = m + 1 + k by omega, Nat.pow_add]
    exact (Nat.div_lt_iff_lt_mul hp).1 a

theorem len8_eq : ∀ i : Fin 256, (len8.getD i.val 0).toNat = bl i.val := by decide +kernel

theorem F113_spec {x : Nat} (h : x < 4294967296) : F113 ((x : Int), ()) = some (((bl x : Int), ()), ()) := by
  rw [F113_eq]
  have t8 : ∀ i : Nat, i < 256 → (len8.getD i 0).toNat = bl i := fun i hi => len8_eq ⟨i, hi⟩
  have hb8 : ∀ i : Nat, i < 256 → bl i ≤ 8 := fun i hi => bl_le_of (k := 8) (by simpa using hi)
  have hdd : (x / 2 ^ 16) / 2 ^ 8 = x / 2 ^ 24 := by rw [Nat.div_div_eq_div_mul]
  simp only [fdiv_pow, decide_eq_true_eq]
  by_cases h1 : (x : Int) ≥ 65536
  · rw [if_pos h1]
    by_cases h2 : ((x / 2 ^ 16 : Nat) : Int) ≥ 256
    · rw [if_pos h2, hdd]
      have h3 : x / 2 ^ 24 < 256 := by omega
      have h4 : x / 2 ^ 24 ≠ 0 := by omega
      have h5 := bl_shift h4
      have h6 := hb8 _ h3
      rw [w8 (by omega) (by omega), if_pos (by omega), if_pos (by omega), Int.toNat_natCast, t8 _ h3, wi (n := ((bl (x / 2 ^ 24) : Nat) : Int)) (by omega) (by omega), wi (n := 16 + 8) (by omega) (by omega), wi (by omega) (by omega)]
      rw [h5]
      simp only [Int.natCast_add]
      rw [Int.add_comm]
      rfl
    · rw [if_neg h2]
      have h3 : x / 2 ^ 16 < 256 := by omega
      have h4 : x / 2 ^ 16 ≠ 0 := by omega
      have h5 := bl_shift h4
      have h6 := hb8 _ h3
      rw [w8 (by omega) (by omega), if_pos (by omega), if_pos (by omega), Int.toNat_natCast, t8 _ h3, wi (n := ((bl (x / 2 ^ 16) : Nat) : Int)) (by omega) (by omega), wi (by omega) (by omega)]
      rw [h5]
      simp only [Int.natCast_add]
      rw [Int.add_comm]
      rfl
  · rw [if_neg h1]
    by_cases h2 : (x : Int) ≥ 256
    · rw [if_pos h2]
      have h3 : x / 2 ^ 8 < 256 := by omega
      have h4 : x / 2 ^ 8 ≠ 0 := by omega
      have h5 := bl_shift h4
      have h6 := hb8 _ h3
      rw [w8 (by omega) (by omega), if_pos (by omega), if_pos (by omega), Int.toNat_natCast, t8 _ h3, wi (n := ((bl (x / 2 ^ 8) : Nat) : Int)) (by omega) (by omega), wi (n := 0 + 8) (by omega) (by omega), wi (by omega) (by omega)]
      rw [h5]
      simp only [Int.natCast_add]
      rw [Int.add_comm]
      rfl
    · rw [if_neg h2]
      have h3 : x < 256 := by omega
      have h6 := hb8 _ h3
      rw [w8 (by omega) (by omega), if_pos (by omega), if_pos (by omega), Int.toNat_natCast, t8 _ h3, wi (n := ((bl (x) : Nat) : Int)) (by omega) (by omega), wi (by omega) (by omega)]
      simp

end Go.Proofs.Rf
/- Numerals: both texts come to the same number and error. -/
namespace Go.Proofs.Rf
open Go

/-- A digit's value. -/
def dg (c : Int) : Int := if 48 ≤ c ∧ c ≤ 57 then c - 48 else if 97 ≤ c ∧ c ≤ 122 then c - 87 else 99

theorem dg_nonneg (c : Int) : 0 ≤ dg c := by unfold dg; split <;> (try split) <;> omega
theorem dg_lt (c : Int) : dg c < 100 := by unfold dg; split <;> (try split) <;> omega

theorem w32i {n : Int} (h0 : -2147483648 ≤ n) (h1 : n < 2147483648) : IntKind.i32.wrap n = n := by
  simp [IntKind.wrap, IntKind.bits, IntKind.signed]
  omega

theorem F60_spec {c : Int} (h0 : 0 ≤ c) (h1 : c < 2147483648) : F60 (c, ()) = some ((dg c, ()), ()) := by
  rw [F60_eq]
  unfold dg
  have e1 : IntKind.i32.wrap (c - 48) = c - 48 := w32i (by omega) (by omega)
  have e2 : IntKind.i32.wrap (c - 97) = c - 97 := w32i (by omega) (by omega)
  have e3 : IntKind.i64.wrap (c - 48) = c - 48 := wi (by omega) (by omega)
  have e4 : IntKind.i64.wrap (c - 97) = c - 97 := wi (by omega) (by omega)
  have e5 : IntKind.i64.wrap (c - 97 + 10) = c - 87 := by rw [wi (by omega) (by omega)]; omega
  simp only [decide_eq_true_eq, e1, e2, e3, e4, e5, ge_iff_le]
  by_cases a1 : 48 ≤ c <;> by_cases a2 : c ≤ 57 <;> by_cases a3 : 97 ≤ c <;> by_cases a4 : c ≤ 122 <;> simp [a1, a2, a3, a4] <;> omega

/-- All are digits. -/
def allD (base : Int) (d : List UInt8) : Bool := d.all fun c => decide (dg (c.toNat : Int) < base)

theorem drop_cons {d : List UInt8} {i : Nat} (h : i < d.length) : d.drop i = d.getD i 0 :: d.drop (i + 1) := by
  rw [List.drop_eq_getElem_cons h, List.getD_eq_getElem?_getD, List.getElem?_eq_getElem h]
  rfl

/-! ### Runes -/
theorem decode_lo {s : List UInt8} {p : Nat} (hp : p < s.length) (h : (s.getD p 0).toNat < 128) : Utf8.decode ⟨s.toArray⟩ p = ((s.getD p 0).toNat, 1) := by
  have hp' : p < (⟨s.toArray⟩ : ByteArray).size := by simpa [ByteArray.size] using hp
  have e : (⟨s.toArray⟩ : ByteArray)[p]'hp' = s.getD p 0 := by
    rw [List.getD_eq_getElem?_getD, List.getElem?_eq_getElem hp]
    rfl
  have := decode_ascii ⟨s.toArray⟩ p hp' (by rw [e]; exact h)
  rw [e] at this
  exact this

theorem decode_hi {s : List UInt8} {p : Nat} (hp : p < s.length) (h : 128 ≤ (s.getD p 0).toNat) : 128 ≤ (Utf8.decode ⟨s.toArray⟩ p).1 := by
  have hp' : p < (⟨s.toArray⟩ : ByteArray).size := by simpa [ByteArray.size] using hp
  have e : (⟨s.toArray⟩ : ByteArray)[p]'hp' = s.getD p 0 := by
    rw [List.getD_eq_getElem?_getD, List.getElem?_eq_getElem hp]
    rfl
  exact (decode_high ⟨s.toArray⟩ p hp' (by rw [e]; exact h)).1

theorem dg_high {c : Int} (h : 128 ≤ c) : dg c = 99 := by unfold dg; rw [if_neg (by omega), if_neg (by omega)]

/-- The program's check of the digits. -/
theorem S55_5_spec {base : Int} {d : List UInt8} (hb : base ≤ 36) :
    limL (S55_5 F60) ((base, (), ()), ((d, 0), ())) = some (if allD base d = true then .inr ((), ()) else .inl ((false, ()), ())) := by
  obtain ⟨z, h1, rfl⟩ := limL_ind (f := S55_5 F60) (fun x => d.length - x.2.1.2)
    (fun x => ∃ p : Nat, x = ((base, (), ()), ((d, p), ())) ∧ p ≤ d.length ∧ allD base d = allD base (d.drop p))
    (fun z => z = (if allD base d = true then .inr ((), ()) else .inl ((false, ()), ()))) (by
    rintro x ⟨p, rfl, hi, hall⟩
    by_cases hlt : p < d.length
    · have h3 := drop_cons hlt
      have hle := decode_le ⟨d.toArray⟩ p
      have hf := F60_spec (c := ((Utf8.decode ⟨d.toArray⟩ p).1 : Int)) (by omega) (by omega)
      have e := S55_5_eq F60 base d p
      rw [if_pos hlt, hf] at e
      simp only [Option.bind_some, decide_eq_true_eq] at e
      rw [h3] at hall
      by_cases hc : (d.getD p 0).toNat < 128
      · rw [decode_lo hlt hc] at e
        by_cases hb : dg ((d.getD p 0).toNat : Int) < base
        · left
          rw [if_neg (show ¬ (dg ((d.getD p 0).toNat : Int) ≥ base) by omega)] at e
          refine ⟨_, e, ⟨p + 1, rfl, by omega, ?_⟩, by show d.length - (p + 1) < d.length - p; omega⟩
          rw [hall]
          simp only [allD, List.all_cons, hb, decide_true, Bool.true_and]
        · right
          rw [if_pos (show dg ((d.getD p 0).toNat : Int) ≥ base by omega)] at e
          refine ⟨_, e, ?_⟩
          rw [hall]
          simp only [allD, List.all_cons, hb, decide_false, Bool.false_and]
          rfl
      · right
        have hh := decode_hi hlt (by omega)
        rw [dg_high (by omega), if_pos (show (99 : Int) ≥ base by omega)] at e
        refine ⟨_, e, ?_⟩
        rw [hall]
        have : ¬ dg ((d.getD p 0).toNat : Int) < base := by rw [dg_high (by omega)]; omega
        simp only [allD, List.all_cons, this, decide_false, Bool.false_and]
        rfl
    · right
      refine ⟨_, ?_, rfl⟩
      rw [hall, List.drop_of_length_le (by omega)]
      rw [S55_5_eq, if_neg hlt]
      rfl) ((base, (), ()), ((d, 0), ())) ⟨0, rfl, by omega, by simp⟩
  exact h1

/-! ### The number -/
/-- Digit by digit; none where it becomes too large. -/
def nums (base : Int) : List UInt8 → Nat → Option Nat
  | [], n => some n
  | c :: r, n => if 200 < (lim ((n : Int) * base + dg (c.toNat : Int)).toNat).length then none else nums base r ((n : Int) * base + dg (c.toNat : Int)).toNat

theorem lim_one {x : Int} (h0 : 0 ≤ x) (h1 : x < 4294967296) : val (lim x.toNat) = x := by rw [val_lim]; omega

theorem F96_one {x : Int} (h0 : 0 ≤ x) (h1 : x < 4294967296) : F96 (limL S96_2) ([x], ()) = some ((lim x.toNat, ()), ()) := by
  have := F96_spec (l := [x]) (Wf.cons h0 h1 Wf.nil) (by simp)
  simpa [val] using this

theorem lim_len {x : Int} (h0 : 0 ≤ x) (h1 : x < 4294967296) : (lim x.toNat).length ≤ 1 := by
  by_cases h : x.toNat = 0
  · rw [h, lim_zero]; simp
  · rw [lim_pos h, show x.toNat / 4294967296 = 0 by omega, lim_zero]; simp
end Go.Proofs.Rf
/- The functions, filled in. -/
namespace Go.Proofs.Rf
open Go Go.RowKit
noncomputable def Lg52_2 : sh52_2.den → Option (denX w52_2) := limL (S52_2)
noncomputable def L52 : (SV.denL ps52) → Option (rs52).den := F52 Lg52_2
theorem okL52 : CallOK Try.prog 52 (mkCall ps52 rs52 L52) := call52 (lim_limL _)
noncomputable def L53 : (SV.denL ps53) → Option (rs53).den := F53
theorem okL53 : CallOK Try.prog 53 (mkCall ps53 rs53 L53) := call53
noncomputable def L54 : (SV.denL ps54) → Option (rs54).den := F54
theorem okL54 : CallOK Try.prog 54 (mkCall ps54 rs54 L54) := call54
noncomputable def L112 : (SV.denL ps112) → Option (rs112).den := F112
theorem okL112 : CallOK Try.prog 112 (mkCall ps112 rs112 L112) := call112
noncomputable def L95 : (SV.denL ps95) → Option (rs95).den := F95 L112
theorem okL95 : CallOK Try.prog 95 (mkCall ps95 rs95 L95) := call95 okL112
noncomputable def L56 : (SV.denL ps56) → Option (rs56).den := F56 L95
theorem okL56 : CallOK Try.prog 56 (mkCall ps56 rs56 L56) := call56 okL95
noncomputable def L60 : (SV.denL ps60) → Option (rs60).den := F60
theorem okL60 : CallOK Try.prog 60 (mkCall ps60 rs60 L60) := call60
noncomputable def Lg55_5 : sh55_5.den → Option (denX w55_5) := limL (S55_5 L60)
noncomputable def L55 : (SV.denL ps55) → Option (rs55).den := F55 L56 Lg55_5
theorem okL55 : CallOK Try.prog 55 (mkCall ps55 rs55 L55) := call55 okL56 okL60 (lim_limL _)
abbrev L97 : (SV.denL ps97) → Option (rs97).den := C97
theorem okL97 : CallOK Try.prog 97 (mkCall ps97 rs97 L97) := callC97
noncomputable def L61 : (SV.denL ps61) → Option (rs61).den := F61 L97
theorem okL61 : CallOK Try.prog 61 (mkCall ps61 rs61 L61) := call61 okL97
noncomputable def Lg96_2 : sh96_2.den → Option (denX w96_2) := limL (S96_2)
noncomputable def L96 : (SV.denL ps96) → Option (rs96).den := F96 Lg96_2
theorem okL96 : CallOK Try.prog 96 (mkCall ps96 rs96 L96) := call96 (lim_limL _)
noncomputable def Lg57_7 : sh57_7.den → Option (denX w57_7) := limL (S57_7)
noncomputable def Lg57_3 : sh57_3.den → Option (denX w57_3) := limL (S57_3 Lg57_7)
noncomputable def L57 : (SV.denL ps57) → Option (rs57).den := F57 L96 Lg57_3
theorem okL57 : CallOK Try.prog 57 (mkCall ps57 rs57 L57) := call57 okL96 (lim_limL _) (lim_limL _)
noncomputable def L58 : (SV.denL ps58) → Option (rs58).den := F58 L96
theorem okL58 : CallOK Try.prog 58 (mkCall ps58 rs58 L58) := call58 okL96
noncomputable def L71 : (SV.denL ps71) → Option (rs71).den := F71
theorem okL71 : CallOK Try.prog 71 (mkCall ps71 rs71 L71) := call71
noncomputable def Lg59_4 : sh59_4.den → Option (denX w59_4) := limL (S59_4 L71)
noncomputable def L59 : (SV.denL ps59) → Option (rs59).den := F59 L96 Lg59_4
theorem okL59 : CallOK Try.prog 59 (mkCall ps59 rs59 L59) := call59 okL71 okL96 (lim_limL _)
noncomputable def Lg11_8 : sh11_8.den → Option (denX w11_8) := limL (S11_8 L57 L58 L59 L60)
noncomputable def L11 : (SV.denL ps11) → Option (rs11).den := F11 L52 L53 L54 L55 L56 L61 Lg11_8
theorem okL11 : CallOK Try.prog 11 (mkCall ps11 rs11 L11) := call11 okL52 okL53 okL54 okL55 okL56 okL57 okL58 okL59 okL60 okL61 (lim_limL _)
noncomputable def L22 : (SV.denL ps22) → Option (rs22).den := F22 L52 L53
theorem okL22 : CallOK Try.prog 22 (mkCall ps22 rs22 L22) := call22 okL52 okL53
noncomputable def L63 : (SV.denL ps63) → Option (rs63).den := F63
theorem okL63 : CallOK Try.prog 63 (mkCall ps63 rs63 L63) := call63
noncomputable def L64 : (SV.denL ps64) → Option (rs64).den := F64
theorem okL64 : CallOK Try.prog 64 (mkCall ps64 rs64 L64) := call64
noncomputable def Lg65_1 : sh65_1.den → Option (denX w65_1) := limL (S65_1)
noncomputable def L65 : (psh65.den) → Option (rs65).den := F65 Lg65_1
theorem okL65 : CallOK Try.prog 65 (mkCallB psh65 rs65 m65 1 L65) := call65 (lim_limL _)
noncomputable def L108 : (SV.denL ps108) → Option (rs108).den := F108
theorem okL108 : CallOK Try.prog 108 (mkCall ps108 rs108 L108) := call108
noncomputable def LD115 : Dt115 := colLim (B115) (Y115)
theorem okLI115 : IterOK Try.prog 115 encs115 (cap115 LD115) := it115 (coll_colLim _ _)
noncomputable def Lg99_4 : List El115 → sh99_4.den → Option (sh99_4.den ⊕ denX w99_4) := foldR (S99_4)
noncomputable def L99 : (SV.denL ps99) → Option (rs99).den := F99 L96 L108 LD115 Lg99_4
theorem okL99 : CallOK Try.prog 99 (mkCall ps99 rs99 L99) := call99 okLI115 okL108 okL96 (rfl)
noncomputable def LD98 : Dt98 := colLim (B98 L99) (Y98 L99)
theorem okLI98 : IterOK Try.prog 98 encs98 (cap98 LD98) := it98 okL99 (coll_colLim _ _)
noncomputable def Lg16_8 : List El98 → sh16_8.den → Option (sh16_8.den ⊕ denX w16_8) := foldR (S16_8)
noncomputable def L16 : (SV.denL ps16) → Option (rs16).den := F16 L22 L52 L53 L54 L63 L64 L65 LD98 Lg16_8
theorem okL16 : CallOK Try.prog 16 (mkCall ps16 rs16 L16) := call16 okLI98 okL22 okL52 okL53 okL54 okL63 okL64 okL65 (rfl)
noncomputable def L113 : (SV.denL ps113) → Option (rs113).den := F113
theorem okL113 : CallOK Try.prog 113 (mkCall ps113 rs113 L113) := call113
noncomputable def L100 : (SV.denL ps100) → Option (rs100).den := F100 L113
theorem okL100 : CallOK Try.prog 100 (mkCall ps100 rs100 L100) := call100 okL113
noncomputable def L69 : (SV.denL ps69) → Option (rs69).den := F69 L100
theorem okL69 : CallOK Try.prog 69 (mkCall ps69 rs69 L69) := call69 okL100
noncomputable def L75 : (SV.denL ps75) → Option (rs75).den := F75
theorem okL75 : CallOK Try.prog 75 (mkCall ps75 rs75 L75) := call75
noncomputable def Lg76_6 : sh76_6.den → Option (denX w76_6) := limL (S76_6)
noncomputable def L76 : (SV.denL ps76) → Option (rs76).den := F76 L96 Lg76_6
theorem okL76 : CallOK Try.prog 76 (mkCall ps76 rs76 L76) := call76 okL96 (lim_limL _)
noncomputable def L104 : (SV.denL ps104) → Option (rs104).den := F104
theorem okL104 : CallOK Try.prog 104 (mkCall ps104 rs104 L104) := call104
noncomputable def Lg114_2 : sh114_2.den → Option (denX w114_2) := limL (S114_2 L104)
noncomputable def L114 : (SV.denL ps114) → Option (rs114).den := F114 Lg114_2
theorem okL114 : CallOK Try.prog 114 (mkCall ps114 rs114 L114) := call114 okL104 (lim_limL _)
noncomputable def L103 : (SV.denL ps103) → Option (rs103).den := F103 L114
theorem okL103 : CallOK Try.prog 103 (mkCall ps103 rs103 L103) := call103 okL114
noncomputable def Lg77_6 : sh77_6.den → Option (denX w77_6) := limL (S77_6 L71)
noncomputable def L77 : (SV.denL ps77) → Option (rs77).den := F77 L96 L103 Lg77_6
theorem okL77 : CallOK Try.prog 77 (mkCall ps77 rs77 L77) := call77 okL103 okL71 okL96 (lim_limL _)
noncomputable def Lg79_4 : List El115 → sh79_4.den → Option (sh79_4.den ⊕ denX w79_4) := foldR (S79_4)
noncomputable def L79 : (SV.denL ps79) → Option (rs79).den := F79 L108 LD115 Lg79_4
theorem okL79 : CallOK Try.prog 79 (mkCall ps79 rs79 L79) := call79 okLI115 okL108 (rfl)
abbrev L105 : (SV.denL ps105) → Option (rs105).den := C105
theorem okL105 : CallOK Try.prog 105 (mkCall ps105 rs105 L105) := callC105
noncomputable def L106 : (SV.denL ps106) → Option (rs106).den := F106
theorem okL106 : CallOK Try.prog 106 (mkCall ps106 rs106 L106) := call106
noncomputable def L107 : (SV.denL ps107) → Option (rs107).den := F107
theorem okL107 : CallOK Try.prog 107 (mkCall ps107 rs107 L107) := call107
noncomputable def Lg78_9 : sh78_9.den → Option (denX w78_9) := limL (S78_9)
noncomputable def Lg78_18 : sh78_18.den → Option (denX w78_18) := limL (S78_18)
noncomputable def Lg78_24 : sh78_24.den → Option (denX w78_24) := limL (S78_24 L106)
noncomputable def Lg78_35 : sh78_35.den → Option (denX w78_35) := limL (S78_35 L107)
noncomputable def Lg78_14 : sh78_14.den → Option (denX w78_14) := limL (S78_14 L106 Lg78_18 Lg78_24 Lg78_35)
noncomputable def L78 : (SV.denL ps78) → Option (rs78).den := F78 L58 L76 L77 L79 L96 L99 L100 L105 Lg78_9 Lg78_14
theorem okL78 : CallOK Try.prog 78 (mkCall ps78 rs78 L78) := call78 okL100 okL105 okL106 okL107 okL58 okL76 okL77 okL79 okL96 okL99 (lim_limL _) (lim_limL _) (lim_limL _) (lim_limL _) (lim_limL _)
noncomputable def Lg109_3 : sh109_3.den → Option (denX w109_3) := limL (S109_3 L22)
noncomputable def L109 : (SV.denL ps109) → Option (rs109).den := F109 Lg109_3
theorem okL109 : CallOK Try.prog 109 (mkCall ps109 rs109 L109) := call109 okL22 (lim_limL _)
noncomputable def L85 : (SV.denL ps85) → Option (rs85).den := F85 L52 L109
theorem okL85 : CallOK Try.prog 85 (mkCall ps85 rs85 L85) := call85 okL109 okL52
noncomputable def Lg110_4 : sh110_4.den → Option (denX w110_4) := limL (S110_4 L71 L106)
noncomputable def L110 : (SV.denL ps110) → Option (rs110).den := F110 L96 Lg110_4
theorem okL110 : CallOK Try.prog 110 (mkCall ps110 rs110 L110) := call110 okL106 okL71 okL96 (lim_limL _)
noncomputable def L87 : (SV.denL ps87) → Option (rs87).den := F87 L59 L61 L63 L79 L110
theorem okL87 : CallOK Try.prog 87 (mkCall ps87 rs87 L87) := call87 okL110 okL59 okL61 okL63 okL79
noncomputable def L88 : (SV.denL ps88) → Option (rs88).den := F88 L61 L63
theorem okL88 : CallOK Try.prog 88 (mkCall ps88 rs88 L88) := call88 okL61 okL63
noncomputable def L89 : (SV.denL ps89) → Option (rs89).den := F89 L57 L61 L63
theorem okL89 : CallOK Try.prog 89 (mkCall ps89 rs89 L89) := call89 okL57 okL61 okL63
noncomputable def L86 : (SV.denL ps86) → Option (rs86).den := F86 L87 L88 L89
theorem okL86 : CallOK Try.prog 86 (mkCall ps86 rs86 L86) := call86 okL87 okL88 okL89
noncomputable def L90 : (SV.denL ps90) → Option (rs90).den := F90 L61 L63 L78 L87
theorem okL90 : CallOK Try.prog 90 (mkCall ps90 rs90 L90) := call90 okL61 okL63 okL78 okL87
noncomputable def Lg29_12 : sh29_12.den → Option (denX w29_12) := limL (S29_12 L86)
noncomputable def Lg29_8 : sh29_8.den → Option (denX w29_8) := limL (S29_8 L90 Lg29_12)
noncomputable def Lg29_18 : sh29_18.den → Option (denX w29_18) := limL (S29_18 L88)
noncomputable def L29 : (SV.denL ps29) → Option (rs29).den := F29 L58 L61 L63 L85 Lg29_8 Lg29_18
theorem okL29 : CallOK Try.prog 29 (mkCall ps29 rs29 L29) := call29 okL58 okL61 okL63 okL85 okL86 okL88 okL90 (lim_limL _) (lim_limL _) (lim_limL _)
noncomputable def Lg31_7 : sh31_7.den → Option (denX w31_7) := limL (S31_7 L89 L90)
noncomputable def L31 : (SV.denL ps31) → Option (rs31).den := F31 L52 L53 L58 L61 L63 L69 L85 L90 Lg31_7
theorem okL31 : CallOK Try.prog 31 (mkCall ps31 rs31 L31) := call31 okL52 okL53 okL58 okL61 okL63 okL69 okL85 okL89 okL90 (lim_limL _)
noncomputable def L39 : (SV.denL ps39) → Option (rs39).den := F39 L52 L53 L85 L90
theorem okL39 : CallOK Try.prog 39 (mkCall ps39 rs39 L39) := call39 okL52 okL53 okL85 okL90
noncomputable def L45 : (SV.denL ps45) → Option (rs45).den := F45
theorem okL45 : CallOK Try.prog 45 (mkCall ps45 rs45 L45) := call45
noncomputable def Lg62_6 : sh62_6.den → Option (denX w62_6) := limL (S62_6)
noncomputable def L62 : (SV.denL ps62) → Option (rs62).den := F62 Lg62_6
theorem okL62 : CallOK Try.prog 62 (mkCall ps62 rs62 L62) := call62 (lim_limL _)
noncomputable def L12 : (SV.denL ps12) → Option (rs12).den := F12 L62
theorem okL12 : CallOK Try.prog 12 (mkCall ps12 rs12 L12) := call12 okL62
noncomputable def L13 : (SV.denL ps13) → Option (rs13).den := F13
theorem okL13 : CallOK Try.prog 13 (mkCall ps13 rs13 L13) := call13
noncomputable def Lg14_2 : sh14_2.den → Option (denX w14_2) := limL (S14_2)
noncomputable def L14 : (SV.denL ps14) → Option (rs14).den := F14 Lg14_2
theorem okL14 : CallOK Try.prog 14 (mkCall ps14 rs14 L14) := call14 (lim_limL _)
noncomputable def L72 : (SV.denL ps72) → Option (rs72).den := F72
theorem okL72 : CallOK Try.prog 72 (mkCall ps72 rs72 L72) := call72
noncomputable def L23 : (SV.denL ps23) → Option (rs23).den := F23 L72
theorem okL23 : CallOK Try.prog 23 (mkCall ps23 rs23 L23) := call23 okL72
noncomputable def L66 : (SV.denL ps66) → Option (rs66).den := F66
theorem okL66 : CallOK Try.prog 66 (mkCall ps66 rs66 L66) := call66
noncomputable def L17 : (SV.denL ps17) → Option (rs17).den := F17 L66
theorem okL17 : CallOK Try.prog 17 (mkCall ps17 rs17 L17) := call17 okL66
noncomputable def L33 : (SV.denL ps33) → Option (rs33).den := F33 L75 L85 L87
theorem okL33 : CallOK Try.prog 33 (mkCall ps33 rs33 L33) := call33 okL75 okL85 okL87
noncomputable def L35 : (SV.denL ps35) → Option (rs35).den := F35 L75 L85 L87 L88
theorem okL35 : CallOK Try.prog 35 (mkCall ps35 rs35 L35) := call35 okL75 okL85 okL87 okL88
noncomputable def L37 : (SV.denL ps37) → Option (rs37).den := F37 L75 L85 L89
theorem okL37 : CallOK Try.prog 37 (mkCall ps37 rs37 L37) := call37 okL75 okL85 okL89
noncomputable def L41 : (SV.denL ps41) → Option (rs41).den := F41 L85 L87 L88
theorem okL41 : CallOK Try.prog 41 (mkCall ps41 rs41 L41) := call41 okL85 okL87 okL88
noncomputable def L42 : (SV.denL ps42) → Option (rs42).den := F42 L12 L13 L17 L33 L35 L37
theorem okL42 : CallOK Try.prog 42 (mkCall ps42 rs42 L42) := call42 okL12 okL13 okL17 okL33 okL35 okL37
noncomputable def L43 : (SV.denL ps43) → Option (rs43).den := F43 L12 L13 L17 L29 L33 L37 L39
theorem okL43 : CallOK Try.prog 43 (mkCall ps43 rs43 L43) := call43 okL12 okL13 okL17 okL29 okL33 okL37 okL39
noncomputable def L44 : (SV.denL ps44) → Option (rs44).den := F44 L12 L13 L17 L31 L33 L37 L39 L45
theorem okL44 : CallOK Try.prog 44 (mkCall ps44 rs44 L44) := call44 okL12 okL13 okL17 okL31 okL33 okL37 okL39 okL45
end Go.Proofs.Rf
/- Numerals: the loops that read the digits. -/
namespace Go.Proofs.Rf
open Go
theorem L96_spec {l : List Int} (hw : Wf l) (hl : l.length < 4611686018427387904) : L96 (l, ()) = some ((lim (val l).toNat, ()), ()) := F96_spec hw hl
theorem L57_spec {a b : List Int} (wa : Wf a) (wb : Wf b) (sa : Sm a) (sb : Sm b) : L57 (a, b, ()) = some ((lim (val a * val b).toNat, ()), ()) := F57_spec wa wb sa sb
theorem L59_spec {a b : List Int} (wa : Wf a) (wb : Wf b) (sa : Sm a) (sb : Sm b) : L59 (a, b, ()) = some ((lim (val a + val b).toNat, ()), ()) := F59_spec wa wb sa sb
theorem L60_spec {c : Int} (h0 : 0 ≤ c) (h1 : c < 2147483648) : L60 (c, ()) = some ((dg c, ()), ()) := F60_spec h0 h1

theorem L58_spec {x : Int} (h0 : 0 ≤ x) (h1 : x < 4294967296) : L58 (x, ()) = some ((lim x.toNat, ()), ()) := by
  have := F96_one h0 h1
  show F58 L96 (x, ()) = _
  rw [F58_eq, show L96 ([x], ()) = _ from this]
  rfl

theorem lim_len_le {m k : Nat} (h : (m : Int) < 4294967296 ^ k) : (lim m).length ≤ k := by
  rcases Nat.lt_or_ge k (lim m).length with q | q
  · exfalso
    have hv := val_lim m
    have hw := Wf_lim m
    have hn := Nm_lim m
    have key : ∀ (l : List Int), Wf l → Nm l → l ≠ [] → 4294967296 ^ (l.length - 1) ≤ val l := by
      intro l
      induction l with
      | nil => intro _ _ h; exact absurd rfl h
      | cons x r ih =>
        intro hw hn _
        cases r with
        | nil =>
          have := val_pos hw hn (by simp)
          simp only [List.length_cons, List.length_nil, Nat.zero_add, Nat.sub_self, Int.pow_zero]
          omega
        | cons y r =>
          have h1 := ih hw.tail hn.tail (by simp)
          have h2 := hw.head
          simp only [List.length_cons, Nat.add_sub_cancel] at h1 ⊢
          rw [powB, val]
          omega
    have h1 := key (lim m) hw hn (by intro e; rw [e] at q; simp at q)
    have h2 : (4294967296 : Int) ^ k ≤ 4294967296 ^ ((lim m).length - 1) := powB_mono (by omega)
    omega
  · exact q

/-- One digit more, in the program. -/
theorem prog_digit {n : Nat} {base : Int} {c : Int} (hb : 2 ≤ base) (hb1 : base ≤ 36) (hc : 0 ≤ c) (hc1 : c < 100) (hn : (lim n).length ≤ 200) :
    L57 (lim n, lim base.toNat, ()) = some ((lim ((n : Int) * base).toNat, ()), ()) ∧ L59 (lim ((n : Int) * base).toNat, lim c.toNat, ()) = some ((lim ((n : Int) * base + c).toNat, ()), ()) := by
  have hw := Wf_lim n
  have h0 : (0 : Int) ≤ (n : Int) * base := Int.mul_nonneg (by omega) (by omega)
  have hbl := lim_len (x := base) (by omega) (by omega)
  constructor
  · have := L57_spec (a := lim n) (b := lim base.toNat) hw (Wf_lim _) (by unfold Sm; omega) (by unfold Sm; omega)
    rw [this, val_lim, lim_one (by omega) (by omega)]
  · have hl : (lim ((n : Int) * base).toNat).length ≤ 201 := by
      have hlt := val_lt hw
      rw [val_lim] at hlt
      have hlt2 : (n : Int) * base < 4294967296 ^ ((lim n).length + 1) := by
        rw [powB]
        have h1 : (n : Int) * base ≤ (n : Int) * 4294967296 := Int.mul_le_mul_of_nonneg_left (by omega) (by omega)
        have h2 : (n : Int) * 4294967296 < 4294967296 ^ (lim n).length * 4294967296 := Int.mul_lt_mul_of_pos_right hlt (by decide)
        omega
      exact Nat.le_trans (lim_len_le (k := (lim n).length + 1) (by omega)) (by omega)
    have hd := lim_len hc (by omega)
    have := L59_spec (a := lim ((n : Int) * base).toNat) (b := lim c.toNat) (Wf_lim _) (Wf_lim _) (by unfold Sm; omega) (by unfold Sm; omega)
    rw [this, val_lim, val_lim]
    congr 4
    omega

/-- The program's loop. -/
theorem Lg11_8_spec {base : Int} {s d : List UInt8} (hb : 2 ≤ base) (hb1 : base ≤ 36) (hall : allD base d = true) :
    Lg11_8 ((s, base, (), [], (), ()), ((false, [], ()), (d, 0), ())) = some (match nums base d 0 with
      | some n => .inr ((s, (), lim n, ()), ((false, [], ()), ()))
      | none => .inl (((), 4, ()), ((false, [], ()), ()))) := by
  obtain ⟨z, h1, rfl⟩ := limL_ind (f := S11_8 L57 L58 L59 L60) (fun x => d.length - x.2.2.1.2)
    (fun x => ∃ p n : Nat, x = ((s, base, (), lim n, (), ()), ((false, [], ()), (d, p), ())) ∧ p ≤ d.length ∧ (lim n).length ≤ 200 ∧ nums base d 0 = nums base (d.drop p) n)
    (fun z => z = (match nums base d 0 with
      | some n => .inr ((s, (), lim n, ()), ((false, [], ()), ()))
      | none => .inl (((), 4, ()), ((false, [], ()), ())))) (by
    rintro x ⟨p, n, rfl, hi, hn, hnum⟩
    by_cases hlt : p < d.length
    · have h3 := drop_cons hlt
      have hdg := dg_nonneg ((d.getD p 0).toNat : Int)
      have hdl := dg_lt ((d.getD p 0).toNat : Int)
      have hin : d.getD p 0 ∈ d := by
        rw [List.getD_eq_getElem?_getD, List.getElem?_eq_getElem hlt]
        exact List.getElem_mem hlt
      have hbd : dg ((d.getD p 0).toNat : Int) < base := by
        unfold allD at hall
        have := List.all_eq_true.1 hall _ hin
        simpa using this
      have hc : (d.getD p 0).toNat < 128 := by
        rcases Nat.lt_or_ge (d.getD p 0).toNat 128 with q | q
        · exact q
        · rw [dg_high (by omega)] at hbd; omega
      have hf := L60_spec (c := ((d.getD p 0).toNat : Int)) (by omega) (by omega)
      obtain ⟨k1, k2⟩ := prog_digit (n := n) (c := dg ((d.getD p 0).toNat : Int)) hb hb1 hdg hdl hn
      have e := S11_8_eq L57 L58 L59 L60 s base (lim n) false [] d p
      rw [if_pos hlt, w32 (n := base) (by omega) (by omega), L58_spec (by omega) (by omega)] at e
      simp only [Option.bind_some] at e
      rw [k1] at e
      simp only [Option.bind_some] at e
      have hdec := decode_lo hlt hc
      rw [hdec] at e
      rw [hf] at e
      simp only [Option.bind_some] at e
      rw [w32 hdg (by omega), L58_spec hdg (by omega)] at e
      simp only [Option.bind_some] at e
      rw [k2] at e
      simp only [Option.bind_some, decide_eq_true_eq] at e
      rw [h3] at hnum
      simp only [nums] at hnum
      by_cases hl : 200 < (lim ((n : Int) * base + dg ((d.getD p 0).toNat : Int)).toNat).length
      · right
        rw [if_pos (show ((lim ((n : Int) * base + dg ((d.getD p 0).toNat : Int)).toNat).length : Int) > 200 by omega)] at e
        rw [if_pos hl] at hnum
        refine ⟨_, e, ?_⟩
        rw [hnum]
      · left
        rw [if_neg (show ¬ (((lim ((n : Int) * base + dg ((d.getD p 0).toNat : Int)).toNat).length : Int) > 200) by omega)] at e
        rw [if_neg hl] at hnum
        exact ⟨_, e, ⟨p + 1, _, rfl, by omega, by omega, hnum⟩, by show d.length - (p + 1) < d.length - p; omega⟩
    · right
      refine ⟨_, ?_, rfl⟩
      rw [hnum, List.drop_of_length_le (by omega)]
      rw [S11_8_eq, if_neg hlt]
      rfl) ((s, base, (), lim 0, (), ()), ((false, [], ()), (d, 0), ())) ⟨0, 0, rfl, by omega, by rw [lim_zero]; simp, by simp⟩
  rw [lim_zero] at h1
  exact h1
end Go.Proofs.Rf
/- Numerals: Parse of both texts comes to the same. -/
namespace Go.Proofs.Rf
open Go

theorem nums_len {base : Int} : ∀ {d : List UInt8} {n m : Nat}, nums base d n = some m → (lim n).length ≤ 200 → (lim m).length ≤ 200
  | [], n, m, h, hn => by
    simp only [nums] at h
    injection h with h
    subst h
    exact hn
  | c :: r, n, m, h, hn => by
    simp only [nums] at h
    split at h
    · cases h
    · rename_i hl
      exact nums_len h (by omega)

/-- What is told of the digits. -/
def fin (neg : Bool) (base : Int) (d : List UInt8) : (Bool × List Int) × Int × Unit :=
  if allD base d = true then (match nums base d 0 with
    | some n => ((neg && decide (0 < (lim n).length), lim n), 0, ())
    | none => ((false, []), 4, ())) else ((false, []), 19, ())

/-- What Parse comes to. -/
def outcome (s : List UInt8) (base : Int) : (Bool × List Int) × Int × Unit :=
  if base < 2 ∨ 36 < base then ((false, []), 3, ()) else
  if 7000 < s.length then ((false, []), 20, ()) else
  match s with
  | [] => ((false, []), 19, ())
  | c :: r => if c = 45 then (match r with
      | [] => ((false, []), 19, ())
      | x :: _ => if x = 48 then ((false, []), 19, ()) else fin true base r)
    else if c = 48 ∧ 0 < r.length then ((false, []), 19, ()) else fin false base (c :: r)

theorem u8eq {c : UInt8} {n : Nat} (hn : n < 256) : ((c.toNat : Int) == (n : Int)) = decide (c = UInt8.ofNat n) := by
  have h : (c.toNat : Int) = (n : Int) ↔ c = UInt8.ofNat n := by
    constructor
    · intro q
      have q : c.toNat = n := by omega
      rw [← q]
      simp
    · intro q
      rw [q]
      simp
      omega
  by_cases q : c = UInt8.ofNat n
  · rw [decide_eq_true q, beq_iff_eq]; exact h.2 q
  · rw [decide_eq_false q]
    exact beq_eq_false_iff_ne.2 fun e => q (h.1 e)

end Go.Proofs.Rf
/- Numerals: the program's Parse; the law. -/
namespace Go.Proofs.Rf
open Go

/-- The first error. -/
theorem L52_spec {l : List Int} (hl : l.length < 1000000000) : L52 (l, ()) = some ((match l.find? (fun e => !(e == 0)) with
    | some e => e
    | none => 0, ()), ()) := by
  obtain ⟨z, h1, rfl⟩ := limL_ind (f := S52_2) (fun x => l.length - x.1.2.2.1.toNat)
    (fun x => ∃ i : Nat, x = ((l, (l.length : Int), (i : Int), ()), ()) ∧ i ≤ l.length ∧ l.find? (fun e => !(e == 0)) = (l.drop i).find? (fun e => !(e == 0)))
    (fun z => z = (match l.find? (fun e => !(e == 0)) with
      | some e => .inl ((e, ()), ())
      | none => .inr ((), ()))) (by
    rintro x ⟨i, rfl, hi, hall⟩
    by_cases hlt : i < l.length
    · have h3 : l.drop i = l.getD i 0 :: l.drop (i + 1) := by
        rw [List.drop_eq_getElem_cons hlt, List.getD_eq_getElem?_getD, List.getElem?_eq_getElem hlt]
        rfl
      have e := S52_2_eq l (l.length : Int) (i : Int)
      simp only [Int.toNat_natCast, decide_eq_true_eq, Int.ofNat_lt, hlt, if_true, show (0 : Int) ≤ (i : Int) by omega] at e
      have e7 : IntKind.i64.wrap ((i : Int) + 1) = ((i + 1 : Nat) : Int) := by rw [wi (by omega) (by omega)]; omega
      rw [e7] at e
      rw [h3, List.find?_cons] at hall
      cases hz : (!(l.getD i 0 == 0)) with
      | true =>
        rw [hz] at hall e
        right
        refine ⟨_, by rw [e]; rfl, ?_⟩
        rw [hall]
      | false =>
        rw [hz] at hall e
        left
        exact ⟨_, by rw [e]; rfl, ⟨i + 1, rfl, by omega, hall⟩, by simp only [Int.toNat_natCast]; omega⟩
    · right
      refine ⟨_, ?_, rfl⟩
      rw [hall, List.drop_of_length_le (by omega)]
      rw [S52_2_eq]
      simp only [decide_eq_true_eq, Int.ofNat_lt, hlt, if_false]
      rfl) ((l, (l.length : Int), ((0 : Nat) : Int), ()), ()) ⟨0, rfl, by omega, by simp⟩
  show F52 Lg52_2 (l, ()) = _
  rw [F52_eq, show Lg52_2 ((l, (l.length : Int), 0, ()), ()) = _ from h1]
  cases l.find? (fun e => !(e == 0)) <;> rfl

theorem L53_spec (b : Bool) (e : Int) : L53 (b, e, ()) = some ((if b = true then e else 0, ()), ()) := by
  show F53 (b, e, ()) = _
  rw [F53_eq]
  cases b <;> rfl

theorem L54_spec (n : Int) : L54 (n, ()) = some ((decide (2 ≤ n ∧ n ≤ 36), ()), ()) := by
  show F54 (n, ()) = _
  rw [F54_eq]
  simp only [decide_eq_true_eq, ge_iff_le]
  by_cases h : 2 ≤ n <;> by_cases h2 : n ≤ 36 <;> simp [h, h2]

/-- What stands behind the sign. -/
def bodyOfS : List UInt8 → List UInt8
  | [] => []
  | c :: r => if c = 45 then r else c :: r

theorem L56_spec (s : List UInt8) : L56 (s, [45], ()) = some ((bodyOfS s, ()), ()) := by
  have h112 : L112 (s, [45], ()) = some ((match s with
      | [] => false
      | c :: _ => decide (c = 45), ()), ()) := by
    show F112 (s, [45], ()) = _
    rw [F112_eq]
    cases s with
    | nil => rfl
    | cons c r =>
      have e1 : ((c :: r).length : Int) ≥ (([45] : List UInt8).length : Int) := by simp only [List.length_cons, List.length_nil]; omega
      simp only [decide_eq_true_eq]
      rw [if_pos e1, if_pos e1]
      have : (c == 45) = decide (c = 45) := by
        by_cases h : c = 45
        · rw [decide_eq_true h, beq_iff_eq]; exact h
        · rw [decide_eq_false h]; exact beq_eq_false_iff_ne.2 h
      simp [this]
  have h95 : L95 (s, [45], ()) = some ((bodyOfS s, ()), ()) := by
    show F95 L112 (s, [45], ()) = _
    rw [F95_eq, h112]
    cases s with
    | nil => rfl
    | cons c r =>
      have e1 : (([45] : List UInt8).length : Int) ≤ ((c :: r).length : Int) := by simp only [List.length_cons, List.length_nil]; omega
      simp only [Option.bind_some, decide_eq_true_eq, bodyOfS]
      by_cases hc : c = 45
      · rw [if_pos hc, if_pos hc, if_pos e1, if_pos (Int.le_refl _)]
        rfl
      · rw [if_neg hc, if_neg hc]
  show F56 L95 (s, [45], ()) = _
  rw [F56_eq, h95]
  rfl

theorem L61_spec (neg : Bool) {n : Nat} (hn : (lim n).length ≤ 200) : L61 (neg, lim n, ()) = some (((neg && decide (0 < (lim n).length), lim n), ()), ()) := by
  have h97 : L97 (lim n, ()) = some ((lim n, ()), ()) := by
    show C97 (lim n, ()) = _
    unfold C97
    rw [if_pos (by rw [Nat.ble_eq]; show (lim n).length ≤ _; omega)]
  show F61 L97 (neg, lim n, ()) = _
  rw [F61_eq, h97]
  cases neg with
  | true =>
    simp only [if_true, Bool.true_and, Option.bind_some]
    congr 4
    exact decide_eq_decide.2 (by omega)
  | false => simp

/-- The numeral's form. -/
theorem L55_spec {s : List UInt8} {base : Int} (hb1 : base ≤ 36) : L55 (s, base, ()) = some ((match s with
    | [] => false
    | c :: r => if c = 45 then (match r with
        | [] => false
        | x :: _ => if x = 48 then false else allD base r)
      else if c = 48 ∧ 0 < r.length then false else allD base (c :: r), ()), ()) := by
  have hloop : ∀ d : List UInt8, ((Lg55_5 ((base, (), ()), (d, 0), ())).bind fun y => Sum.elim (fun y => some ((y.1.1, ()), ())) (fun z => some ((true, ()), ())) y : Option rs55.den) = some ((allD base d, ()), ()) := by
    intro d
    rw [show Lg55_5 ((base, (), ()), (d, 0), ()) = _ from S55_5_spec (d := d) hb1]
    by_cases ha : allD base d = true
    · rw [if_pos ha, ha]; rfl
    · rw [if_neg ha]
      have : allD base d = false := by simpa using ha
      rw [this]
      rfl
  have q48 : ∀ x : UInt8, (((x.toNat : Int) == 48) = true) = (x = 48) := fun x => by rw [show (48 : Int) = ((48 : Nat) : Int) from rfl, u8eq (by decide)]; simp
  show F55 L56 Lg55_5 (s, base, ()) = _
  rw [F55_eq, L56_spec]
  simp only [Option.bind_some]
  cases s with
  | nil => rfl
  | cons c r =>
    simp only [bodyOfS]
    by_cases hc : c = 45
    · subst hc
      simp only [if_true]
      cases r with
      | nil => rfl
      | cons x t =>
        rw [if_neg (show ¬ ((x :: t == ([] : List UInt8)) = true) by simp)]
        by_cases ht : t = []
        · subst ht
          by_cases hx : x = 48
          · subst hx
            rfl
          · rw [if_neg (show ¬ (([45, x] == ([45, 48] : List UInt8)) = true) by simpa using hx), if_neg (show ¬ (decide (((([x] : List UInt8).length : Nat) : Int) > 1) = true) by simp), hloop]
            simp only [hx, if_false]
        · have htl : 0 < t.length := List.length_pos_iff.2 ht
          rw [if_neg (show ¬ ((45 :: x :: t == ([45, 48] : List UInt8)) = true) by simp [ht])]
          rw [if_pos (show decide ((((x :: t).length : Nat) : Int) > 1) = true by rw [decide_eq_true_eq]; simp only [List.length_cons]; omega), if_pos (show (0 : Int) < ((x :: t).length : Int) by simp only [List.length_cons]; omega)]
          simp only [List.getD_cons_zero, q48]
          by_cases hx : x = 48
          · rw [if_pos hx, if_pos hx]
          · rw [if_neg hx, if_neg hx, hloop]
    · simp only [hc, if_false]
      rw [if_neg (show ¬ ((c :: r == ([] : List UInt8)) = true) by simp), if_neg (show ¬ ((c :: r == ([45, 48] : List UInt8)) = true) by simp [hc])]
      by_cases hr : 0 < r.length
      · rw [if_pos (show decide ((((c :: r).length : Nat) : Int) > 1) = true by rw [decide_eq_true_eq]; simp only [List.length_cons]; omega), if_pos (show (0 : Int) < ((c :: r).length : Int) by simp only [List.length_cons]; omega)]
        simp only [List.getD_cons_zero, q48]
        by_cases hx : c = 48
        · rw [if_pos hx, if_pos ⟨hx, hr⟩]
        · rw [if_neg hx, if_neg (fun q => hx q.1), hloop]
      · rw [if_neg (show ¬ (decide ((((c :: r).length : Nat) : Int) > 1) = true) by rw [decide_eq_true_eq]; simp only [List.length_cons]; omega), hloop, if_neg (fun q => hr q.2)]

/-- The program's Parse comes to the same. -/
theorem L11_spec (s : List UInt8) (base : Int) : L11 (s, base, ()) = some (outcome s base, ()) := by
  show F11 L52 L53 L54 L55 L56 L61 Lg11_8 (s, base, ()) = _
  rw [F11_eq, L54_spec]
  simp only [Option.bind_some]
  rw [L53_spec]
  simp only [Option.bind_some]
  rw [L53_spec]
  simp only [Option.bind_some]
  rw [L52_spec (by simp)]
  simp only [Option.bind_some]
  unfold outcome
  by_cases hb : base < 2 ∨ 36 < base
  · have h1 : decide (2 ≤ base ∧ base ≤ 36) = false := by rw [decide_eq_false_iff_not]; omega
    rw [if_pos hb, h1]
    simp
  · have h1 : decide (2 ≤ base ∧ base ≤ 36) = true := by rw [decide_eq_true_eq]; omega
    rw [if_neg hb, h1]
    by_cases hl : 7000 < s.length
    · have h2 : decide ((s.length : Int) > 7000) = true := by rw [decide_eq_true_eq]; omega
      rw [if_pos hl, h2]
      simp
    · have h2 : decide ((s.length : Int) > 7000) = false := by rw [decide_eq_false_iff_not]; omega
      rw [if_neg hl, h2]
      have h3 : ∀ e : Int, (match List.find? (fun e => !(e == 0)) [if (!true) = true then (3 : Int) else 0, if false = true then (20 : Int) else 0] with
        | some e => e
        | none => 0) = 0 := fun _ => rfl
      rw [h3 0]
      rw [if_neg (show ¬ ((!((0 : Int) == 0)) = true) by decide), L55_spec (by omega)]
      simp only [Option.bind_some]
      -- behind the checks
      have htail : ∀ (c : UInt8) (r d : List UInt8) (neg : Bool), s = c :: r → bodyOfS s = d → neg = decide (c = 45) → (if (!(allD base d)) = true then some (((false, []), 19, ()), ()) else
          (L56 (s, [45], ())).bind fun y => (Lg11_8 ((s, base, (), [], (), ()), (false, [], ()), (y.1.1, 0), ())).bind fun y =>
            Sum.elim (fun y => some (((y.2.1.1, y.2.1.2.1), y.1.2.1, ()), ())) (fun z => if 0 < (↑(List.length z.1.1) : Int) then
              (L61 ((↑(List.getD z.1.1 0 (0 : UInt8)).toNat : Int) == 45, z.1.2.2.1, ())).bind fun y => some (((y.1.1.1, y.1.1.2), 0, ()), ()) else none) y : Option rs11.den) = some (fin neg base d, ()) := by
        intro c r d neg hs hd hneg
        unfold fin
        by_cases ha : allD base d = true
        · rw [if_neg (by rw [ha]; decide), if_pos ha, L56_spec, hd]
          simp only [Option.bind_some]
          rw [Lg11_8_spec (by omega) (by omega) ha]
          cases hn : nums base d 0 with
          | none => rfl
          | some n =>
            simp only [Option.bind_some, Sum.elim_inr]
            have hln := nums_len hn (by rw [lim_zero]; simp)
            have q45 : ((c.toNat : Int) == 45) = decide (c = 45) := by rw [show (45 : Int) = ((45 : Nat) : Int) from rfl, u8eq (by decide)]; rfl
            rw [hs]
            rw [if_pos (show (0 : Int) < ((c :: r).length : Int) by simp only [List.length_cons]; omega)]
            simp only [List.getD_cons_zero, q45]
            rw [L61_spec _ hln, hneg]
            rfl
        · have hf : allD base d = false := by simpa using ha
          rw [if_pos (by rw [hf]; rfl), if_neg ha]
      cases s with
      | nil => rfl
      | cons c r =>
        simp only
        by_cases hc : c = 45
        · simp only [hc, if_true]
          cases r with
          | nil => rfl
          | cons x t =>
            simp only
            by_cases hx : x = 48
            · simp only [hx, if_true, Bool.not_false]
            · have := htail c (x :: t) (x :: t) true rfl (by simp [bodyOfS, hc]) (by simp [hc])
              rw [hc] at this
              simp only [hx, if_false]
              exact this
        · simp only [hc, if_false]
          by_cases hx : c = 48 ∧ 0 < r.length
          · simp only [hx, and_self, if_true, Bool.not_false]
          · simp only [hx, if_false]
            exact htail c r (c :: r) false rfl (by simp [bodyOfS, hc]) (by simp [hc])
end Go.Proofs.Rf
/- The functions, filled in. -/
namespace Go.Proofs.Rf
open Go Go.RowKit
noncomputable def Kg52_2 : sh52_2.den → Option (denX w52_2) := iterL (S52_2) 100
noncomputable def K52 : (SV.denL ps52) → Option (rs52).den := F52 Kg52_2
theorem okK52 : CallOK Try.prog 52 (mkCall ps52 rs52 K52) := call52 (lim_iterL _ _)
noncomputable def K53 : (SV.denL ps53) → Option (rs53).den := F53
theorem okK53 : CallOK Try.prog 53 (mkCall ps53 rs53 K53) := call53
noncomputable def K54 : (SV.denL ps54) → Option (rs54).den := F54
theorem okK54 : CallOK Try.prog 54 (mkCall ps54 rs54 K54) := call54
noncomputable def K112 : (SV.denL ps112) → Option (rs112).den := F112
theorem okK112 : CallOK Try.prog 112 (mkCall ps112 rs112 K112) := call112
noncomputable def K95 : (SV.denL ps95) → Option (rs95).den := F95 K112
theorem okK95 : CallOK Try.prog 95 (mkCall ps95 rs95 K95) := call95 okK112
noncomputable def K56 : (SV.denL ps56) → Option (rs56).den := F56 K95
theorem okK56 : CallOK Try.prog 56 (mkCall ps56 rs56 K56) := call56 okK95
noncomputable def K60 : (SV.denL ps60) → Option (rs60).den := F60
theorem okK60 : CallOK Try.prog 60 (mkCall ps60 rs60 K60) := call60
noncomputable def Kg55_5 : sh55_5.den → Option (denX w55_5) := iterL (S55_5 K60) 100
noncomputable def K55 : (SV.denL ps55) → Option (rs55).den := F55 K56 Kg55_5
theorem okK55 : CallOK Try.prog 55 (mkCall ps55 rs55 K55) := call55 okK56 okK60 (lim_iterL _ _)
abbrev K97 : (SV.denL ps97) → Option (rs97).den := C97
theorem okK97 : CallOK Try.prog 97 (mkCall ps97 rs97 K97) := callC97
noncomputable def K61 : (SV.denL ps61) → Option (rs61).den := F61 K97
theorem okK61 : CallOK Try.prog 61 (mkCall ps61 rs61 K61) := call61 okK97
noncomputable def Kg96_2 : sh96_2.den → Option (denX w96_2) := iterL (S96_2) 100
noncomputable def K96 : (SV.denL ps96) → Option (rs96).den := F96 Kg96_2
theorem okK96 : CallOK Try.prog 96 (mkCall ps96 rs96 K96) := call96 (lim_iterL _ _)
noncomputable def Kg57_7 : sh57_7.den → Option (denX w57_7) := iterL (S57_7) 100
noncomputable def Kg57_3 : sh57_3.den → Option (denX w57_3) := iterL (S57_3 Kg57_7) 100
noncomputable def K57 : (SV.denL ps57) → Option (rs57).den := F57 K96 Kg57_3
theorem okK57 : CallOK Try.prog 57 (mkCall ps57 rs57 K57) := call57 okK96 (lim_iterL _ _) (lim_iterL _ _)
noncomputable def K58 : (SV.denL ps58) → Option (rs58).den := F58 K96
theorem okK58 : CallOK Try.prog 58 (mkCall ps58 rs58 K58) := call58 okK96
noncomputable def K71 : (SV.denL ps71) → Option (rs71).den := F71
theorem okK71 : CallOK Try.prog 71 (mkCall ps71 rs71 K71) := call71
noncomputable def Kg59_4 : sh59_4.den → Option (denX w59_4) := iterL (S59_4 K71) 100
noncomputable def K59 : (SV.denL ps59) → Option (rs59).den := F59 K96 Kg59_4
theorem okK59 : CallOK Try.prog 59 (mkCall ps59 rs59 K59) := call59 okK71 okK96 (lim_iterL _ _)
noncomputable def Kg11_8 : sh11_8.den → Option (denX w11_8) := iterL (S11_8 K57 K58 K59 K60) 100
noncomputable def K11 : (SV.denL ps11) → Option (rs11).den := F11 K52 K53 K54 K55 K56 K61 Kg11_8
theorem okK11 : CallOK Try.prog 11 (mkCall ps11 rs11 K11) := call11 okK52 okK53 okK54 okK55 okK56 okK57 okK58 okK59 okK60 okK61 (lim_iterL _ _)
noncomputable def K22 : (SV.denL ps22) → Option (rs22).den := F22 K52 K53
theorem okK22 : CallOK Try.prog 22 (mkCall ps22 rs22 K22) := call22 okK52 okK53
noncomputable def K63 : (SV.denL ps63) → Option (rs63).den := F63
theorem okK63 : CallOK Try.prog 63 (mkCall ps63 rs63 K63) := call63
noncomputable def K64 : (SV.denL ps64) → Option (rs64).den := F64
theorem okK64 : CallOK Try.prog 64 (mkCall ps64 rs64 K64) := call64
noncomputable def Kg65_1 : sh65_1.den → Option (denX w65_1) := iterL (S65_1) 100
noncomputable def K65 : (psh65.den) → Option (rs65).den := F65 Kg65_1
theorem okK65 : CallOK Try.prog 65 (mkCallB psh65 rs65 m65 1 K65) := call65 (lim_iterL _ _)
noncomputable def K108 : (SV.denL ps108) → Option (rs108).den := F108
theorem okK108 : CallOK Try.prog 108 (mkCall ps108 rs108 K108) := call108
noncomputable def KD115 : Dt115 := colK (B115) (Y115) 100
theorem okKI115 : IterOK Try.prog 115 encs115 (cap115 KD115) := it115 (coll_colK _ _ _)
noncomputable def Kg99_4 : List El115 → sh99_4.den → Option (sh99_4.den ⊕ denX w99_4) := foldR (S99_4)
noncomputable def K99 : (SV.denL ps99) → Option (rs99).den := F99 K96 K108 KD115 Kg99_4
theorem okK99 : CallOK Try.prog 99 (mkCall ps99 rs99 K99) := call99 okKI115 okK108 okK96 (rfl)
noncomputable def KD98 : Dt98 := colK (B98 K99) (Y98 K99) 100
theorem okKI98 : IterOK Try.prog 98 encs98 (cap98 KD98) := it98 okK99 (coll_colK _ _ _)
noncomputable def Kg16_8 : List El98 → sh16_8.den → Option (sh16_8.den ⊕ denX w16_8) := foldR (S16_8)
noncomputable def K16 : (SV.denL ps16) → Option (rs16).den := F16 K22 K52 K53 K54 K63 K64 K65 KD98 Kg16_8
theorem okK16 : CallOK Try.prog 16 (mkCall ps16 rs16 K16) := call16 okKI98 okK22 okK52 okK53 okK54 okK63 okK64 okK65 (rfl)
noncomputable def K113 : (SV.denL ps113) → Option (rs113).den := F113
theorem okK113 : CallOK Try.prog 113 (mkCall ps113 rs113 K113) := call113
noncomputable def K100 : (SV.denL ps100) → Option (rs100).den := F100 K113
theorem okK100 : CallOK Try.prog 100 (mkCall ps100 rs100 K100) := call100 okK113
noncomputable def K69 : (SV.denL ps69) → Option (rs69).den := F69 K100
theorem okK69 : CallOK Try.prog 69 (mkCall ps69 rs69 K69) := call69 okK100
noncomputable def K68 : (SV.denL ps68) → Option (rs68).den := F68
theorem okK68 : CallOK Try.prog 68 (mkCall ps68 rs68 K68) := call68
noncomputable def Kg19_6 : sh19_6.den → Option (denX w19_6) := iterL (S19_6 K68) 100
noncomputable def K19 : (SV.denL ps19) → Option (rs19).den := F19 K22 K63 K69 Kg19_6
theorem okK19 : CallOK Try.prog 19 (mkCall ps19 rs19 K19) := call19 okK22 okK63 okK68 okK69 (lim_iterL _ _)
noncomputable def K70 : (SV.denL ps70) → Option (rs70).den := F70
theorem okK70 : CallOK Try.prog 70 (mkCall ps70 rs70 K70) := call70
noncomputable def K101 : (SV.denL ps101) → Option (rs101).den := F101
theorem okK101 : CallOK Try.prog 101 (mkCall ps101 rs101 K101) := call101
noncomputable def K21 : (SV.denL ps21) → Option (rs21).den := F21 K22 K52 K53 K63 K70 K71 K101
theorem okK21 : CallOK Try.prog 21 (mkCall ps21 rs21 K21) := call21 okK101 okK22 okK52 okK53 okK63 okK70 okK71
noncomputable def K75 : (SV.denL ps75) → Option (rs75).den := F75
theorem okK75 : CallOK Try.prog 75 (mkCall ps75 rs75 K75) := call75
noncomputable def Kg76_6 : sh76_6.den → Option (denX w76_6) := iterL (S76_6) 100
noncomputable def K76 : (SV.denL ps76) → Option (rs76).den := F76 K96 Kg76_6
theorem okK76 : CallOK Try.prog 76 (mkCall ps76 rs76 K76) := call76 okK96 (lim_iterL _ _)
noncomputable def K104 : (SV.denL ps104) → Option (rs104).den := F104
theorem okK104 : CallOK Try.prog 104 (mkCall ps104 rs104 K104) := call104
noncomputable def Kg114_2 : sh114_2.den → Option (denX w114_2) := iterL (S114_2 K104) 100
noncomputable def K114 : (SV.denL ps114) → Option (rs114).den := F114 Kg114_2
theorem okK114 : CallOK Try.prog 114 (mkCall ps114 rs114 K114) := call114 okK104 (lim_iterL _ _)
noncomputable def K103 : (SV.denL ps103) → Option (rs103).den := F103 K114
theorem okK103 : CallOK Try.prog 103 (mkCall ps103 rs103 K103) := call103 okK114
noncomputable def Kg77_6 : sh77_6.den → Option (denX w77_6) := iterL (S77_6 K71) 100
noncomputable def K77 : (SV.denL ps77) → Option (rs77).den := F77 K96 K103 Kg77_6
theorem okK77 : CallOK Try.prog 77 (mkCall ps77 rs77 K77) := call77 okK103 okK71 okK96 (lim_iterL _ _)
noncomputable def K25 : (SV.denL ps25) → Option (rs25).den := F25 K22 K52 K53 K58 K59 K61 K63 K75 K76 K77
theorem okK25 : CallOK Try.prog 25 (mkCall ps25 rs25 K25) := call25 okK22 okK52 okK53 okK58 okK59 okK61 okK63 okK75 okK76 okK77
noncomputable def Kg79_4 : List El115 → sh79_4.den → Option (sh79_4.den ⊕ denX w79_4) := foldR (S79_4)
noncomputable def K79 : (SV.denL ps79) → Option (rs79).den := F79 K108 KD115 Kg79_4
theorem okK79 : CallOK Try.prog 79 (mkCall ps79 rs79 K79) := call79 okKI115 okK108 (rfl)
abbrev K105 : (SV.denL ps105) → Option (rs105).den := C105
theorem okK105 : CallOK Try.prog 105 (mkCall ps105 rs105 K105) := callC105
noncomputable def K106 : (SV.denL ps106) → Option (rs106).den := F106
theorem okK106 : CallOK Try.prog 106 (mkCall ps106 rs106 K106) := call106
noncomputable def K107 : (SV.denL ps107) → Option (rs107).den := F107
theorem okK107 : CallOK Try.prog 107 (mkCall ps107 rs107 K107) := call107
noncomputable def Kg78_9 : sh78_9.den → Option (denX w78_9) := iterL (S78_9) 100
noncomputable def Kg78_18 : sh78_18.den → Option (denX w78_18) := iterL (S78_18) 100
noncomputable def Kg78_24 : sh78_24.den → Option (denX w78_24) := iterL (S78_24 K106) 100
noncomputable def Kg78_35 : sh78_35.den → Option (denX w78_35) := iterL (S78_35 K107) 100
noncomputable def Kg78_14 : sh78_14.den → Option (denX w78_14) := iterL (S78_14 K106 Kg78_18 Kg78_24 Kg78_35) 100
noncomputable def K78 : (SV.denL ps78) → Option (rs78).den := F78 K58 K76 K77 K79 K96 K99 K100 K105 Kg78_9 Kg78_14
theorem okK78 : CallOK Try.prog 78 (mkCall ps78 rs78 K78) := call78 okK100 okK105 okK106 okK107 okK58 okK76 okK77 okK79 okK96 okK99 (lim_iterL _ _) (lim_iterL _ _) (lim_iterL _ _) (lim_iterL _ _) (lim_iterL _ _)
noncomputable def Kg27_8 : sh27_8.den → Option (denX w27_8) := iterL (S27_8 K59 K61 K77 K78 K79) 100
noncomputable def K27 : (SV.denL ps27) → Option (rs27).den := F27 K22 K52 K53 K58 K63 K69 K76 Kg27_8
theorem okK27 : CallOK Try.prog 27 (mkCall ps27 rs27 K27) := call27 okK22 okK52 okK53 okK58 okK59 okK61 okK63 okK69 okK76 okK77 okK78 okK79 (lim_iterL _ _)
noncomputable def Kg109_3 : sh109_3.den → Option (denX w109_3) := iterL (S109_3 K22) 100
noncomputable def K109 : (SV.denL ps109) → Option (rs109).den := F109 Kg109_3
theorem okK109 : CallOK Try.prog 109 (mkCall ps109 rs109 K109) := call109 okK22 (lim_iterL _ _)
noncomputable def K85 : (SV.denL ps85) → Option (rs85).den := F85 K52 K109
theorem okK85 : CallOK Try.prog 85 (mkCall ps85 rs85 K85) := call85 okK109 okK52
noncomputable def Kg110_4 : sh110_4.den → Option (denX w110_4) := iterL (S110_4 K71 K106) 100
noncomputable def K110 : (SV.denL ps110) → Option (rs110).den := F110 K96 Kg110_4
theorem okK110 : CallOK Try.prog 110 (mkCall ps110 rs110 K110) := call110 okK106 okK71 okK96 (lim_iterL _ _)
noncomputable def K87 : (SV.denL ps87) → Option (rs87).den := F87 K59 K61 K63 K79 K110
theorem okK87 : CallOK Try.prog 87 (mkCall ps87 rs87 K87) := call87 okK110 okK59 okK61 okK63 okK79
noncomputable def K88 : (SV.denL ps88) → Option (rs88).den := F88 K61 K63
theorem okK88 : CallOK Try.prog 88 (mkCall ps88 rs88 K88) := call88 okK61 okK63
noncomputable def K89 : (SV.denL ps89) → Option (rs89).den := F89 K57 K61 K63
theorem okK89 : CallOK Try.prog 89 (mkCall ps89 rs89 K89) := call89 okK57 okK61 okK63
noncomputable def K86 : (SV.denL ps86) → Option (rs86).den := F86 K87 K88 K89
theorem okK86 : CallOK Try.prog 86 (mkCall ps86 rs86 K86) := call86 okK87 okK88 okK89
noncomputable def K90 : (SV.denL ps90) → Option (rs90).den := F90 K61 K63 K78 K87
theorem okK90 : CallOK Try.prog 90 (mkCall ps90 rs90 K90) := call90 okK61 okK63 okK78 okK87
noncomputable def Kg29_12 : sh29_12.den → Option (denX w29_12) := iterL (S29_12 K86) 100
noncomputable def Kg29_8 : sh29_8.den → Option (denX w29_8) := iterL (S29_8 K90 Kg29_12) 100
noncomputable def Kg29_18 : sh29_18.den → Option (denX w29_18) := iterL (S29_18 K88) 100
noncomputable def K29 : (SV.denL ps29) → Option (rs29).den := F29 K58 K61 K63 K85 Kg29_8 Kg29_18
theorem okK29 : CallOK Try.prog 29 (mkCall ps29 rs29 K29) := call29 okK58 okK61 okK63 okK85 okK86 okK88 okK90 (lim_iterL _ _) (lim_iterL _ _) (lim_iterL _ _)
noncomputable def Kg31_7 : sh31_7.den → Option (denX w31_7) := iterL (S31_7 K89 K90) 100
noncomputable def K31 : (SV.denL ps31) → Option (rs31).den := F31 K52 K53 K58 K61 K63 K69 K85 K90 Kg31_7
theorem okK31 : CallOK Try.prog 31 (mkCall ps31 rs31 K31) := call31 okK52 okK53 okK58 okK61 okK63 okK69 okK85 okK89 okK90 (lim_iterL _ _)
noncomputable def K39 : (SV.denL ps39) → Option (rs39).den := F39 K52 K53 K85 K90
theorem okK39 : CallOK Try.prog 39 (mkCall ps39 rs39 K39) := call39 okK52 okK53 okK85 okK90
noncomputable def K45 : (SV.denL ps45) → Option (rs45).den := F45
theorem okK45 : CallOK Try.prog 45 (mkCall ps45 rs45 K45) := call45
noncomputable def Kg62_6 : sh62_6.den → Option (denX w62_6) := iterL (S62_6) 100
noncomputable def K62 : (SV.denL ps62) → Option (rs62).den := F62 Kg62_6
theorem okK62 : CallOK Try.prog 62 (mkCall ps62 rs62 K62) := call62 (lim_iterL _ _)
noncomputable def K12 : (SV.denL ps12) → Option (rs12).den := F12 K62
theorem okK12 : CallOK Try.prog 12 (mkCall ps12 rs12 K12) := call12 okK62
noncomputable def K13 : (SV.denL ps13) → Option (rs13).den := F13
theorem okK13 : CallOK Try.prog 13 (mkCall ps13 rs13 K13) := call13
noncomputable def K46 : (SV.denL ps46) → Option (rs46).den := F46 K12 K13 K45
theorem okK46 : CallOK Try.prog 46 (mkCall ps46 rs46 K46) := call46 okK12 okK13 okK45
noncomputable def K9 : (SV.denL ps9) → Option (rs9).den := F9 K11 K16 K19 K21 K25 K27 K29 K31 K39 K45 K46
theorem okK9 : CallOK Try.prog 9 (mkCall ps9 rs9 K9) := call9 okK11 okK16 okK19 okK21 okK25 okK27 okK29 okK31 okK39 okK45 okK46
end Go.Proofs.Rf
/- The examples hold: they are reckoned out. -/
namespace Go.Proofs.Rf
open Go
theorem K9_val : K9 () = some ((true, ()), ()) := by kernel_rfl
end Go.Proofs.Rf
/- Numerals: the law returns true. -/
namespace Go.Proofs.Rf
open Go

/-- A number is the same as itself. -/
theorem L62_same {l : List Int} (hl : l.length < 1000000000) : L62 (l, l, ()) = some ((0, ()), ()) := by
  obtain ⟨z, h1, rfl⟩ := limL_ind (f := S62_6) (fun x => (x.1.2.2.1 + 1).toNat)
    (fun x => ∃ k : Nat, x = ((l, l, (k : Int) - 1, ()), ()) ∧ k ≤ l.length) (fun z => z = .inr ((), ())) (by
    rintro x ⟨k, rfl, hk⟩
    have e := S62_6_eq l l ((k : Int) - 1)
    by_cases h0 : k = 0
    · right
      subst h0
      refine ⟨_, ?_, rfl⟩
      rw [e]
      simp
    · left
      have e1 : ((k : Int) - 1).toNat = k - 1 := by omega
      have e2 : IntKind.i64.wrap ((k : Int) - 1 - 1) = ((k - 1 : Nat) : Int) - 1 := by rw [wi (by omega) (by omega)]; omega
      have p1 : ((k : Int) - 1 ≥ 0) := by omega
      have p3 : (k : Int) - 1 < (l.length : Int) := by omega
      simp only [e1, e2, decide_eq_true_eq, p1, p3, if_true, Int.lt_irrefl, gt_iff_lt, if_false] at e
      exact ⟨_, e, ⟨k - 1, rfl, by omega⟩, by show (((k - 1 : Nat) : Int) - 1 + 1).toNat < ((k : Int) - 1 + 1).toNat; omega⟩) ((l, l, ((l.length : Nat) : Int) - 1, ()), ()) ⟨l.length, rfl, Nat.le_refl _⟩
  show F62 Lg62_6 (l, l, ()) = _
  have hw : IntKind.i64.wrap ((l.length : Int) - 1) = (l.length : Int) - 1 := wi (by omega) (by omega)
  rw [F62_eq, hw, show Lg62_6 ((l, l, (l.length : Int) - 1, ()), ()) = _ from h1]
  simp

theorem L12_same {neg : Bool} {l : List Int} (hl : l.length < 1000000000) : L12 ((neg, l), (neg, l), ()) = some ((true, ()), ()) := by
  show F12 L62 ((neg, l), (neg, l), ()) = _
  rw [F12_eq, L62_same hl]
  simp

theorem L13_id (x : Bool × List Int) : L13 (x, ()) = some ((x, ()), ()) := by
  obtain ⟨neg, l⟩ := x
  show F13 ((neg, l), ()) = _
  rw [F13_eq]

end Go.Proofs.Rf
/- Right numbers: what Check tells; numbers as integers. -/
namespace Go.Proofs.Rf
open Go Go.RowKit

/-- The first error of two. -/
def fst2 (a b : Int) : Int := if a = 0 then b else a

theorem L52_two (a b : Int) : L52 ([a, b], ()) = some ((fst2 a b, ()), ()) := by
  rw [L52_spec (by simp)]
  unfold fst2
  by_cases ha : a = 0
  · subst ha
    by_cases hb : b = 0
    · subst hb; simp
    · simp [hb]
  · simp [ha]

theorem L52_four (a b c d : Int) : L52 ([a, b, c, d], ()) = some ((fst2 a (fst2 b (fst2 c d)), ()), ()) := by
  rw [L52_spec (by simp)]
  unfold fst2
  by_cases ha : a = 0
  · subst ha
    by_cases hb : b = 0
    · subst hb
      by_cases hc : c = 0
      · subst hc
        by_cases hd : d = 0
        · subst hd; simp
        · simp [hd]
      · simp [hc]
    · simp [hb]
  · simp [ha]

/-- The error of a raw number. -/
def err (neg : Bool) (l : List Int) : Int :=
  if 200 < l.length then 5 else if (l.length = 0 ∧ neg = true) ∨ (0 < l.length ∧ l.getD (l.length - 1) 0 = 0) then 1 else 0

theorem L72_spec (b : Bool) (e : Int) : L72 (b, e, ()) = some ((if b = true then e else 0, ()), ()) := by
  show F72 (b, e, ()) = _
  rw [F72_eq]
  split <;> rfl

theorem L23_spec {neg : Bool} {l : List Int} (hl : l.length < 4611686018427387904) : L23 ((neg, l), ()) = some ((err neg l, ()), ()) := by
  show F23 L72 ((neg, l), ()) = _
  rw [F23_eq]
  unfold err
  by_cases h0 : l.length = 0
  · obtain rfl := List.eq_nil_of_length_eq_zero h0
    cases neg
    · show (L72 (false, 1, ())).bind _ = _
      rw [L72_spec]
      simp
    · show (L72 (true, 1, ())).bind _ = _
      rw [L72_spec]
      simp
  · have e : IntKind.i64.wrap ((l.length : Int) - 1) = ((l.length - 1 : Nat) : Int) := by rw [wi (by omega) (by omega)]; omega
    have p1 : ((l.length : Int) == 0) = false := by simpa using h0
    have p2 : (l.length : Int) > 0 := by omega
    have p3 : (0 : Int) ≤ ((l.length - 1 : Nat) : Int) := by omega
    have p4 : ((l.length - 1 : Nat) : Int) < (l.length : Int) := by omega
    have p5 : 0 < l.length := by omega
    by_cases h : 200 < l.length
    · have p6 : (l.length : Int) > 200 := by omega
      simp only [decide_eq_true_eq, p6, h, if_true]
    · have p6 : ¬ (l.length : Int) > 200 := by omega
      simp only [decide_eq_true_eq, p6, h, if_false, e, p1, p2, p3, p4, if_true, Bool.false_eq_true, Int.toNat_natCast, h0, false_and, false_or, p5, true_and]
      rw [L72_spec]
      simp only [Option.bind_some, beq_iff_eq]

theorem L22_spec {neg : Bool} {l : List Int} (hl : l.length < 4611686018427387904) : L22 ((neg, l), ()) = some ((err neg l, ()), ()) := by
  show F22 L52 L53 ((neg, l), ()) = _
  rw [F22_eq]
  unfold err
  by_cases h0 : l.length = 0
  · obtain rfl := List.eq_nil_of_length_eq_zero h0
    show ((L53 (false, 5, ())).bind fun y => (L53 (neg, 1, ())).bind fun y_1 => (L52 ([y.1.1, y_1.1.1], ())).bind fun y => some ((y.1.1, ()), ()) : Option rs22.den) = _
    rw [L53_spec, L53_spec]
    simp only [Option.bind_some]
    rw [L52_two]
    cases neg <;> simp [fst2]
  · have e : IntKind.i64.wrap ((l.length : Int) - 1) = ((l.length - 1 : Nat) : Int) := by rw [wi (by omega) (by omega)]; omega
    have p1 : ((l.length : Int) == 0) = false := by simpa using h0
    have p2 : (l.length : Int) > 0 := by omega
    have p3 : (0 : Int) ≤ ((l.length - 1 : Nat) : Int) := by omega
    have p4 : ((l.length - 1 : Nat) : Int) < (l.length : Int) := by omega
    have p5 : 0 < l.length := by omega
    simp only [decide_eq_true_eq, e, p1, p2, p3, p4, if_true, if_false, Bool.false_eq_true, Int.toNat_natCast, h0, false_and, false_or, p5, true_and]
    rw [L53_spec, L53_spec, L53_spec]
    simp only [Option.bind_some, if_true, if_false, Bool.false_eq_true]
    rw [L52_two, L52_two]
    simp only [Option.bind_some, decide_eq_true_eq, beq_iff_eq]
    by_cases h : 200 < l.length
    · have p6 : (l.length : Int) > 200 := by omega
      simp only [p6, h, if_true]
      split <;> simp [fst2]
    · have p6 : ¬ (l.length : Int) > 200 := by omega
      simp only [p6, h, if_false]
      split <;> simp [fst2]

/-! ### Numbers -/
/-- An integer as the texts hold it. -/
def zl (z : Int) : Bool × List Int := (decide (z < 0), lim z.natAbs)

theorem err_zero {neg : Bool} {l : List Int} (hw : Wf l) (h : err neg l = 0) : ∃ z, (neg, l) = zl z ∧ l.length ≤ 200 := by
  unfold err at h
  split at h
  · omega
  · rename_i h1
    split at h
    · omega
    · rename_i h2
      have e : l = lim (val l).toNat := by
        have := take_lim hw (n := l.length) (Nat.le_refl _) (fun i h1 h2 => by omega) (fun h3 h4 => h2 (.inr ⟨h3, h4⟩))
        rw [List.take_length] at this
        exact this
      have hv := val_nonneg hw
      refine ⟨if neg = true then - val l else val l, ?_, by omega⟩
      unfold zl
      cases neg
      · have : (val l).natAbs = (val l).toNat := by omega
        simp only [Bool.false_eq_true, if_false, this, ← e]
        congr 1
        simpa using hv
      · have hne : 0 < l.length := by
          rcases Nat.eq_zero_or_pos l.length with q | q
          · exact (h2 (.inl ⟨q, rfl⟩)).elim
          · exact q
        have hp : val l ≠ 0 := by
          intro hz
          rw [hz] at e
          rw [e] at hne
          simp [lim_zero] at hne
        have : (- val l).natAbs = (val l).toNat := by omega
        simp only [if_true, this, ← e]
        congr 1
        simp
        omega

theorem lim_eq_nil {n : Nat} : lim n = [] ↔ n = 0 := by
  constructor
  · intro h
    have := val_lim n
    rw [h] at this
    simp only [val] at this
    omega
  · rintro rfl
    exact lim_zero

theorem lim_inj {a b : Nat} (h : lim a = lim b) : a = b := by
  have h1 := val_lim a
  have h2 := val_lim b
  rw [h] at h1
  omega

theorem Nm.last : ∀ {l : List Int}, Nm l → 0 < l.length → l.getD (l.length - 1) 0 ≠ 0
  | [x], h, _ => h
  | x :: y :: r, h, _ => by
    have := Nm.last (l := y :: r) h (by simp)
    simpa using this

theorem lim_last {n : Nat} (h1 : 0 < (lim n).length) (h2 : (lim n).getD ((lim n).length - 1) 0 = 0) : False := (Nm_lim n).last h1 h2

theorem err_zl {z : Int} (h : (lim z.natAbs).length ≤ 200) : err (decide (z < 0)) (lim z.natAbs) = 0 := by
  unfold err
  rw [if_neg (by omega), if_neg]
  rintro (⟨h1, h2⟩ | ⟨h1, h2⟩)
  · have h3 := lim_eq_nil.1 (List.eq_nil_of_length_eq_zero h1)
    have h2 : z < 0 := by simpa using h2
    omega
  · exact lim_last h1 h2

theorem L66_spec {neg : Bool} {l : List Int} (hl : l.length ≤ 4294967296) : L66 ((neg, l), ()) = some (((neg, l), ()), ()) := by
  show F66 ((neg, l), ()) = _
  rw [F66_eq, if_pos hl]

theorem L17_spec {neg : Bool} {l : List Int} (hl : l.length ≤ 4294967296) : L17 ((neg, l), ()) = some (((neg, l), ()), ()) := by
  show F17 L66 ((neg, l), ()) = _
  rw [F17_eq, L66_spec hl]
  rfl

/-- Whether numbers have at most so many limbs, or just too many. -/
theorem L14_spec {most : Int} {ls : List (Bool × List Int)} (hl : ls.length < 1000000) : ∃ b : Bool, L14 (most, ls, ()) = some ((b, ()), ()) ∧ (b = true → ∀ a ∈ ls, (a.2.length : Int) ≤ most ∨ a.2.length = 201) := by
  obtain ⟨z, h1, hz⟩ := limL_ind (f := S14_2) (fun x => ls.length - x.1.2.2.2.1.toNat)
    (fun x => ∃ i : Nat, x = ((most, ls, (ls.length : Int), (i : Int), ()), ()) ∧ ∀ j, j < i → ((ls.getD j (false, [])).2.length : Int) ≤ most ∨ (ls.getD j (false, [])).2.length = 201)
    (fun z => z = .inl ((false, ()), ()) ∨ (z = .inr ((), ()) ∧ ∀ j, j < ls.length → ((ls.getD j (false, [])).2.length : Int) ≤ most ∨ (ls.getD j (false, [])).2.length = 201)) (by
    rintro x ⟨i, rfl, hi⟩
    have e := S14_2_eq most ls (ls.length : Int) (i : Int)
    by_cases h0 : i < ls.length
    · have p0 : (0 : Int) ≤ (i : Int) := by omega
      have e6 : IntKind.i64.wrap ((i : Int) + 1) = ((i + 1 : Nat) : Int) := by rw [wi (by omega) (by omega)]; omega
      simp only [decide_eq_true_eq, Int.ofNat_lt, h0, if_true, p0, Int.toNat_natCast, e6] at e
      have inv : (((ls.getD i (false, [])).2.length : Int) ≤ most ∨ (ls.getD i (false, [])).2.length = 201) → ∀ j, j < i + 1 → ((ls.getD j (false, [])).2.length : Int) ≤ most ∨ (ls.getD j (false, [])).2.length = 201 := by
        intro hh j hj
        by_cases hj' : j < i
        · exact hi j hj'
        · obtain rfl : j = i := by omega
          exact hh
      by_cases h1 : ((ls.getD i (false, [])).2.length : Int) > most
      · rw [if_pos h1] at e
        by_cases h2 : (ls.getD i (false, [])).2.length = 201
        · rw [if_neg (show ¬ (!((ls.getD i (false, [])).2.length : Int) == 201) = true by rw [h2]; decide)] at e
          exact .inl ⟨_, e, ⟨i + 1, rfl, inv (.inr h2)⟩, by simp only [Int.toNat_natCast]; omega⟩
        · have h3 : (!((ls.getD i (false, [])).2.length : Int) == 201) = true := by
            rw [Bool.not_eq_true', beq_eq_false_iff_ne]
            omega
          rw [if_pos h3] at e
          exact .inr ⟨_, e, .inl rfl⟩
      · rw [if_neg h1] at e
        exact .inl ⟨_, e, ⟨i + 1, rfl, inv (.inl (by omega))⟩, by simp only [Int.toNat_natCast]; omega⟩
    · right
      simp only [decide_eq_true_eq, Int.ofNat_lt, h0, if_false] at e
      exact ⟨_, e, .inr ⟨rfl, fun j hj => hi j (by omega)⟩⟩) ((most, ls, (ls.length : Int), ((0 : Nat) : Int), ()), ()) ⟨0, rfl, by intro j hj; omega⟩
  have h1 : Lg14_2 ((most, ls, (ls.length : Int), 0, ()), ()) = some z := h1
  have hF : L14 (most, ls, ()) = _ := F14_eq Lg14_2 most ls
  rw [h1] at hF
  rcases hz with rfl | ⟨rfl, hj⟩
  · exact ⟨false, hF, fun h => by cases h⟩
  · refine ⟨true, hF, fun _ a ha => ?_⟩
    obtain ⟨i, hi, rfl⟩ := List.getElem_of_mem ha
    have := hj i hi
    rw [List.getD_eq_getElem?_getD, List.getElem?_eq_getElem hi] at this
    exact this
end Go.Proofs.Rf
/- Short division, in both texts; what slices.Backward gives. -/
namespace Go.Proofs.Rf
open Go Go.RowKit

theorem drop_set_at {l : List Int} {i : Nat} {v : Int} (h : i < l.length) : (l.set i v).drop i = v :: l.drop (i + 1) := by
  rw [List.drop_eq_getElem_cons (by simpa using h)]
  congr 1
  · simp
  · rw [List.drop_set, if_pos (by omega)]

theorem take_set_at {l : List Int} {i k : Nat} {v : Int} (h : k ≤ i) : (l.set i v).take k = l.take k := by
  rw [List.take_set, List.set_eq_of_length_le]
  simp
  omega

theorem drop_at {l : List Int} {i : Nat} (h : i < l.length) : l.drop i = l.getD i 0 :: l.drop (i + 1) := by
  rw [List.drop_eq_getElem_cons h, List.getD_eq_getElem?_getD, List.getElem?_eq_getElem h]
  rfl

/-- Division by a limb, from the highest limb down. -/
def divS (d : Int) : List Int → List Int × Int
  | [] => ([], 0)
  | x :: r => (((divS d r).2 * 4294967296 + x) / d :: (divS d r).1, ((divS d r).2 * 4294967296 + x) % d)

theorem divS_rest {d : Int} (hd : 0 < d) : ∀ l, 0 ≤ (divS d l).2 ∧ (divS d l).2 < d
  | [] => ⟨Int.le_refl _, hd⟩
  | _ :: _ => ⟨Int.emod_nonneg _ (by omega), Int.emod_lt_of_pos _ hd⟩

theorem divS_length {d : Int} : ∀ l, (divS d l).1.length = l.length
  | [] => rfl
  | _ :: r => by
    show (divS d r).1.length + 1 = _
    rw [divS_length r]
    rfl

theorem divS_val {d : Int} (hd : 0 < d) : ∀ l, val l = d * val (divS d l).1 + (divS d l).2
  | [] => by simp [val, divS]
  | x :: r => by
    have ih := divS_val hd r
    have h := Int.mul_ediv_add_emod ((divS d r).2 * 4294967296 + x) d
    show x + 4294967296 * val r = d * (((divS d r).2 * 4294967296 + x) / d + 4294967296 * val (divS d r).1) + ((divS d r).2 * 4294967296 + x) % d
    grind

theorem divS_Wf {d : Int} (hd : 0 < d) : ∀ {l}, Wf l → Wf (divS d l).1
  | [], _ => Wf.nil
  | x :: r, h => by
    have hr := divS_rest hd r
    have hx := h.head
    refine Wf.cons (Int.ediv_nonneg (by omega) (by omega)) ?_ (divS_Wf hd h.tail)
    refine Int.ediv_lt_of_lt_mul hd ?_
    have : ((divS d r).2 + 1) * 4294967296 ≤ d * 4294967296 := Int.mul_le_mul_of_nonneg_right (by omega) (by decide)
    grind

theorem divS_quot {d : Int} (hd : 0 < d) (l : List Int) : val (divS d l).1 = val l / d ∧ (divS d l).2 = val l % d := by
  have h1 := divS_val hd l
  have h2 := divS_rest hd l
  have h3 := Int.ediv_emod_unique (a := val l) (q := val (divS d l).1) (r := (divS d l).2) hd
  have := h3.2 ⟨by omega, h2.1, h2.2⟩
  exact ⟨this.1.symm, this.2.symm⟩

/-! ### slices.Backward -/
def desc (l : List Int) : Nat → List (Int × Int)
  | 0 => []
  | k + 1 => ((k : Int), l.getD k 0) :: desc l k

theorem Y115_done (l : List Int) : Y115 (((), -1, ()), ((l, ()), ())) = some RY.done := by
  rw [Y115_eq]
  rfl

theorem Y115_go {l : List Int} {k : Nat} (h : k < l.length) (hl : l.length < 4611686018427387904) : Y115 (((), (k : Int), ()), ((l, ()), ())) = some (RY.yl ((k : Int), l.getD k 0) (((), (k : Int) - 1, ()), (l, ()), ())) := by
  rw [Y115_eq]
  have e : IntKind.i64.wrap ((k : Int) - 1) = (k : Int) - 1 := wi (by omega) (by omega)
  simp only [decide_eq_true_eq, ge_iff_le, show (0 : Int) ≤ (k : Int) by omega, if_true, Int.ofNat_lt, h, Int.toNat_natCast, e]

theorem colY_desc {l : List Int} (hl : l.length < 4611686018427387904) : ∀ k, k ≤ l.length → colY Y115 (k + 1) (((), (k : Int) - 1, ()), ((l, ()), ())) = some (desc l k)
  | 0, _ => by
    show (match Y115 (((), (((0 : Nat) : Int)) - 1, ()), ((l, ()), ())) with | some (.go y) => colY Y115 0 y | some .done => some [] | some (.yl e y) => (match colY Y115 0 y with | some r => some (e :: r) | none => none) | none => none) = _
    rw [show (((0 : Nat) : Int)) - 1 = -1 from rfl, Y115_done]
    rfl
  | k + 1, hk => by
    unfold colY
    rw [show ((k + 1 : Nat) : Int) - 1 = (k : Int) by omega, Y115_go (by omega) hl]
    simp only
    rw [colY_desc hl k (by omega)]
    rfl

theorem LD115_spec {l : List Int} (hl : l.length < 4611686018427387904) : LD115 (((), ()), ((l, ()), ())) = some (desc l l.length) := by
  refine colLim_some (l.length + 1) ?_
  show (B115 (((), ()), ((l, ()), ()))).bind _ = _
  rw [B115_eq]
  have e : IntKind.i64.wrap ((l.length : Int) - 1) = (l.length : Int) - 1 := wi (by omega) (by omega)
  rw [e]
  exact colY_desc hl l.length (Nat.le_refl _)

theorem L108_spec (l : List Int) : L108 (l, ()) = some ((((), ()), ()), (l, ()), ()) := F108_eq l

theorem foldR_cons {El A B : Type} {f : El → A → Option (A ⊕ B)} {e : El} {r : List El} {x y : A} (h : f e x = some (.inl y)) : foldR f (e :: r) x = foldR f r y := by simp only [foldR, h]

/-- A loop over a list from its end, with an exit. -/
theorem foldR_desc {A B : Type} {l : List Int} {f : Int × Int → A → Option (A ⊕ B)} (I : Nat → A → Prop) (Q : B → Prop)
    (h : ∀ j x, j < l.length → I (j + 1) x → (∃ y, f ((j : Int), l.getD j 0) x = some (.inl y) ∧ I j y) ∨ ∃ z, f ((j : Int), l.getD j 0) x = some (.inr z) ∧ Q z) :
    ∀ k x, k ≤ l.length → I k x → (∃ y, foldR f (desc l k) x = some (.inl y) ∧ I 0 y) ∨ ∃ z, foldR f (desc l k) x = some (.inr z) ∧ Q z
  | 0, x, _, hx => .inl ⟨x, rfl, hx⟩
  | k + 1, x, hk, hx => by
    rcases h k x (by omega) hx with ⟨y, h1, h2⟩ | ⟨z, h1, h2⟩
    · rcases foldR_desc I Q h k y (by omega) h2 with ⟨y', h3, h4⟩ | ⟨z, h3, h4⟩
      · refine .inl ⟨y', ?_, h4⟩
        show (match f ((k : Int), l.getD k 0) x with | some (.inl y) => foldR f (desc l k) y | some (.inr z) => some (.inr z) | none => none) = _
        rw [h1]
        exact h3
      · refine .inr ⟨z, ?_, h4⟩
        show (match f ((k : Int), l.getD k 0) x with | some (.inl y) => foldR f (desc l k) y | some (.inr z) => some (.inr z) | none => none) = _
        rw [h1]
        exact h3
    · refine .inr ⟨z, ?_, h2⟩
      show (match f ((k : Int), l.getD k 0) x with | some (.inl y) => foldR f (desc l k) y | some (.inr z) => some (.inr z) | none => none) = _
      rw [h1]

/-! ### by -/
/-- One limb of a short division, in the program. -/
theorem S99_step {d c x : Int} {i : Nat} {r : List Int} (hd : 0 < d) (hd1 : d < 4294967296) (hc : 0 ≤ c) (hc1 : c < d) (hx : 0 ≤ x) (hx1 : x < 4294967296) (hi : i < r.length) :
    S99_4 ((i : Int), x) (((), (), (), ()), ((d, ()), ((), ()), (c, ()), r, ())) = some (.inl (((), (), (), ()), (d, ()), ((), ()), ((c * 4294967296 + x) % d, ()), r.set i ((c * 4294967296 + x) / d), ())) := by
  rw [S99_4_eq]
  have e1 : IntKind.u64.wrap d = d := w64 (by omega) (by omega)
  have e2 : IntKind.u64.wrap (c * 2 ^ 32) = c * 4294967296 := w64 (by omega) (by omega)
  have e3 : IntKind.u64.wrap x = x := w64 (by omega) (by omega)
  have e4 : bitop .or .u64 (c * 4294967296) x = c * 4294967296 + x := by
    obtain ⟨c', rfl⟩ := Int.eq_ofNat_of_zero_le hc
    obtain ⟨x', rfl⟩ := Int.eq_ofNat_of_zero_le hx
    have := or64 (x := c' * 4294967296) (y := x') (by omega) (by omega)
    rw [or_parts (k := 32) (by omega)] at this
    simp only [Int.natCast_mul, Int.natCast_add] at this
    exact this
  have q0 : 0 ≤ (c * 4294967296 + x) / d := Int.ediv_nonneg (by omega) (by omega)
  have q1 : (c * 4294967296 + x) / d < 4294967296 := by
    refine Int.ediv_lt_of_lt_mul hd ?_
    have : (c + 1) * 4294967296 ≤ d * 4294967296 := Int.mul_le_mul_of_nonneg_right (by omega) (by decide)
    grind
  have e5 : Int.tdiv (c * 4294967296 + x) d = (c * 4294967296 + x) / d := Int.tdiv_eq_ediv_of_nonneg (by omega)
  have e6 : Int.tmod (c * 4294967296 + x) d = (c * 4294967296 + x) % d := Int.tmod_eq_emod_of_nonneg (by omega)
  have e7 : IntKind.u64.wrap ((c * 4294967296 + x) / d) = (c * 4294967296 + x) / d := w64 q0 (by omega)
  have e8 : IntKind.u32.wrap ((c * 4294967296 + x) / d) = (c * 4294967296 + x) / d := w32 q0 q1
  rw [e1, e2, e3, e4, e5, e6, e7, e8]
  rw [if_neg (show ¬ d = 0 by omega), if_neg (show ¬ d = 0 by omega), if_pos (show (0 : Int) ≤ (i : Int) by omega), if_pos (show (i : Int) < (r.length : Int) by omega), Int.toNat_natCast]

theorem L99_spec {a : List Int} {d : Int} (wa : Wf a) (hl : a.length < 1000000000) (hd : 0 < d) (hd1 : d < 4294967296) : L99 (a, d, ()) = some ((lim (val a / d).toNat, val a % d, ()), ()) := by
  show F99 L96 L108 LD115 Lg99_4 (a, d, ()) = _
  rw [F99_eq, L108_spec]
  rw [if_pos (Int.le_refl _), if_pos (show (a.length : Int) ≤ ((4294967296 : Nat) : Int) by omega)]
  show (LD115 (((), ()), ((a, ()), ()))).bind _ = _
  rw [LD115_spec (by omega)]
  simp only [Option.bind_some, Int.toNat_natCast]
  have h := foldR_desc (l := a) (f := S99_4) (fun k x => ∃ c r, x = (((), (), (), ()), ((d, ()), ((), ()), (c, ()), r, ())) ∧ r.length = a.length ∧ r.drop k = (divS d (a.drop k)).1 ∧ c = (divS d (a.drop k)).2) (fun _ => False) (by
    rintro j x hj ⟨c, r, rfl, hr, hq, hc⟩
    have xa := wa.getD j
    have hrest := divS_rest hd (a.drop (j + 1))
    rw [← hc] at hrest
    left
    refine ⟨_, S99_step hd hd1 hrest.1 hrest.2 xa.1 xa.2 (by omega), _, _, rfl, by simp [hr], ?_, ?_⟩
    · rw [drop_set_at (by omega), drop_at hj, hq]
      show _ = _ :: _
      rw [hc]
    · rw [drop_at hj]
      show _ = ((divS d (a.drop (j + 1))).2 * 4294967296 + a.getD j 0) % d
      rw [hc]) a.length (((), (), (), ()), ((d, ()), ((), ()), (0, ()), List.replicate a.length 0, ())) (Nat.le_refl _) ⟨0, _, rfl, by simp, by rw [List.drop_of_length_le (by simp), List.drop_of_length_le (Nat.le_refl _)]; rfl, by rw [List.drop_of_length_le (Nat.le_refl _)]; rfl⟩
  rcases h with ⟨y, h1, c, r, rfl, hr, hq, hc⟩ | ⟨z, _, hz⟩
  · have h1 : Lg99_4 (desc a a.length) (((), (), (), ()), (d, ()), ((), ()), (0, ()), List.replicate a.length 0, ()) = _ := h1
    rw [h1]
    rw [List.drop_zero, List.drop_zero] at hq
    rw [List.drop_zero] at hc
    have hv := divS_quot hd a
    have hrr := divS_rest hd a
    simp only [Option.bind_some, Sum.elim_inl]
    rw [hq, L96_spec (divS_Wf hd wa) (by rw [divS_length]; omega)]
    simp only [Option.bind_some]
    rw [hv.1, hc, w32 (by omega) (by omega), hv.2]
  · exact hz.elim
end Go.Proofs.Rf
/- Text, in both texts. -/
namespace Go.Proofs.Rf
open Go Go.RowKit

/-- The digits of a number, the least one first. -/
def digs (b n : Nat) : List Int := if _h : n = 0 ∨ b < 2 then [] else ((n % b : Nat) : Int) :: digs b (n / b)
termination_by n
decreasing_by exact Nat.div_lt_self (by omega) (by omega)

theorem digs_zero (b : Nat) : digs b 0 = [] := by rw [digs]; simp
theorem digs_pos {b n : Nat} (hn : n ≠ 0) (hb : 2 ≤ b) : digs b n = ((n % b : Nat) : Int) :: digs b (n / b) := by
  rw [digs, dif_neg (by omega)]

theorem digs_lt {b : Nat} (hb : 2 ≤ b) (n : Nat) : ∀ e ∈ digs b n, 0 ≤ e ∧ e < (b : Int) := by
  induction n using Nat.strongRecOn with
  | _ n ih =>
    by_cases h : n = 0
    · subst h; rw [digs_zero]; simp
    · rw [digs_pos h hb]
      intro e he
      rcases List.mem_cons.1 he with rfl | he
      · have := Nat.mod_lt n (show b > 0 by omega)
        omega
      · exact ih _ (Nat.div_lt_self (by omega) (by omega)) e he

theorem digs_length {b : Nat} (hb : 2 ≤ b) : ∀ (k n : Nat), n < 2 ^ k → (digs b n).length ≤ k
  | 0, n, h => by
    have : n = 0 := by simpa using h
    subst this
    rw [digs_zero]
    simp
  | k + 1, n, h => by
    by_cases h0 : n = 0
    · subst h0; rw [digs_zero]; simp
    · rw [digs_pos h0 hb, List.length_cons]
      have h1 : n / b ≤ n / 2 := Nat.div_le_div_left hb (by decide)
      have h2 : n / 2 < 2 ^ k := by rw [Nat.pow_succ] at h; omega
      have := digs_length hb k (n / b) (by omega)
      omega

/-- A digit's byte. -/
def chr (d : Int) : Int := if d < 10 then 48 + d else 87 + d

theorem tb36 : ∀ i : Fin 36, ((tbE41_0.getD i.val 0).toNat : Int) = chr (i.val : Int) := by decide +kernel

/-! ### Turning round -/
def swp (l : List Int) (i k : Nat) : List Int := (l.set i (l.getD k 0)).set k (l.getD i 0)

/-- From i on, ahead of e. -/
def rv : Nat → Nat → Nat → List Int → List Int
  | 0, _, _, l => l
  | m + 1, i, e, l => if i + 1 < e then rv m (i + 1) (e - 1) (swp l i (e - 1)) else l

theorem swp_length (l : List Int) (i k : Nat) : (swp l i k).length = l.length := by simp [swp]

theorem swp_getD {l : List Int} {i k j : Nat} (hi : i < l.length) (hk : k < l.length) : (swp l i k).getD j 0 = if j = k then l.getD i 0 else if j = i then l.getD k 0 else l.getD j 0 := by
  unfold swp
  rw [getD_set, getD_set]
  simp only [List.length_set, hi, hk, and_true]
  by_cases h1 : j = k
  · subst h1; simp
  · by_cases h2 : j = i
    · subst h2; simp [h1, Ne.symm h1]
    · simp [h1, h2, Ne.symm h1, Ne.symm h2]

theorem rv_getD : ∀ (m i e : Nat) (l : List Int), e ≤ l.length → e ≤ i + m → (rv m i e l).length = l.length ∧ ∀ j, (rv m i e l).getD j 0 = if i ≤ j ∧ j < e then l.getD (i + e - 1 - j) 0 else l.getD j 0
  | 0, i, e, l, h1, h2 => by
    refine ⟨rfl, fun j => ?_⟩
    show l.getD j 0 = _
    rw [if_neg (by omega)]
  | m + 1, i, e, l, h1, h2 => by
    show (if i + 1 < e then rv m (i + 1) (e - 1) (swp l i (e - 1)) else l).length = _ ∧ ∀ j, (if i + 1 < e then rv m (i + 1) (e - 1) (swp l i (e - 1)) else l).getD j 0 = _
    by_cases h : i + 1 < e
    · rw [if_pos h]
      obtain ⟨q1, q2⟩ := rv_getD m (i + 1) (e - 1) (swp l i (e - 1)) (by rw [swp_length]; omega) (by omega)
      refine ⟨by rw [q1, swp_length], fun j => ?_⟩
      rw [q2]
      by_cases hj : i + 1 ≤ j ∧ j < e - 1
      · rw [if_pos hj, if_pos (by omega), swp_getD (by omega) (by omega), if_neg (by omega), if_neg (by omega), show i + 1 + (e - 1) - 1 - j = i + e - 1 - j by omega]
      · rw [if_neg hj, swp_getD (by omega) (by omega)]
        by_cases ha : j = e - 1
        · subst ha
          rw [if_pos rfl, if_pos (by omega), show i + e - 1 - (e - 1) = i by omega]
        · rw [if_neg ha]
          by_cases hb : j = i
          · subst hb
            rw [if_pos rfl, if_pos (by omega), show j + e - 1 - j = e - 1 by omega]
          · rw [if_neg hb, if_neg (by omega)]
    · rw [if_neg h]
      refine ⟨rfl, fun j => ?_⟩
      by_cases hj : i ≤ j ∧ j < e
      · rw [if_pos hj, show i + e - 1 - j = j by omega]
      · rw [if_neg hj]

theorem getD_ext {a b : List Int} (h : a.length = b.length) (k : ∀ j, j < a.length → a.getD j 0 = b.getD j 0) : a = b := by
  refine List.ext_getElem h fun i h1 h2 => ?_
  have := k i h1
  rw [List.getD_eq_getElem?_getD, List.getD_eq_getElem?_getD, List.getElem?_eq_getElem h1, List.getElem?_eq_getElem h2] at this
  exact this

theorem rv_reverse (l : List Int) : rv l.length 0 l.length l = l.reverse := by
  obtain ⟨h1, h2⟩ := rv_getD l.length 0 l.length l (Nat.le_refl _) (by omega)
  refine getD_ext (by rw [h1, List.length_reverse]) fun j hj => ?_
  rw [h1] at hj
  rw [h2, if_pos (by omega), List.getD_eq_getElem?_getD, List.getD_eq_getElem?_getD, List.getElem?_reverse hj]
  congr 3
  omega

/-- Both texts' loops that turn a row round. -/
theorem turn_loop {A B : Type} {f : A → Option (A ⊕ B)} {st : Int → Int → List Int → A} {fin : List Int → B} (hf : ∀ i k r, f (st i k r) = (
    if decide (i < k) = true then
      if 0 ≤ k then
        if k < (r.length : Int) then
          if 0 ≤ i then
            if i < (r.length : Int) then
              if 0 ≤ i then
                if i < (r.length : Int) then
                  if 0 ≤ k then
                    if k < ((r.set i.toNat (r.getD k.toNat 0)).length : Int) then
                      some (.inl (st (IntKind.i64.wrap (i + 1)) (IntKind.i64.wrap (k - 1)) ((r.set i.toNat (r.getD k.toNat 0)).set k.toNat (r.getD i.toNat 0))))
                    else none
                  else none
                else none
              else none
            else none
          else none
        else none
      else none
    else some (.inr (fin r)))) (μ : A → Nat) (hμ : ∀ i k r, μ (st i k r) = (k - i + 1).toNat) (l : List Int) (hl : l.length < 1000000000) : limL f (st 0 ((l.length : Int) - 1) l) = some (fin l.reverse) := by
  obtain ⟨z, h1, rfl⟩ := limL_ind (f := f) μ (fun x => ∃ (m i e : Nat) (r : List Int), x = st (i : Int) ((e : Int) - 1) r ∧ rv m i e r = l.reverse ∧ r.length = l.length ∧ e ≤ l.length ∧ e ≤ i + m ∧ i ≤ l.length)
    (fun z => z = fin l.reverse) (by
    rintro x ⟨m, i, e, r, rfl, hrv, hr, he, hm, hi⟩
    have q := hf (i : Int) ((e : Int) - 1) r
    by_cases h : i + 1 < e
    · left
      obtain ⟨m', rfl⟩ : ∃ m', m = m' + 1 := ⟨m - 1, by omega⟩
      have hrv : (if i + 1 < e then rv m' (i + 1) (e - 1) (swp r i (e - 1)) else r) = l.reverse := hrv
      rw [if_pos h] at hrv
      have e1 : IntKind.i64.wrap ((i : Int) + 1) = ((i + 1 : Nat) : Int) := by rw [wi (by omega) (by omega)]; omega
      have e2 : IntKind.i64.wrap ((e : Int) - 1 - 1) = ((e - 1 : Nat) : Int) - 1 := by rw [wi (by omega) (by omega)]; omega
      have e3 : ((e : Int) - 1).toNat = e - 1 := by omega
      have p1 : (i : Int) < (e : Int) - 1 := by omega
      have p2 : (0 : Int) ≤ (e : Int) - 1 := by omega
      have p3 : (e : Int) - 1 < (r.length : Int) := by omega
      have p4 : (0 : Int) ≤ (i : Int) := by omega
      have p5 : (i : Int) < (r.length : Int) := by omega
      simp only [decide_eq_true_eq, p1, p2, p3, p4, p5, if_true, e1, e2, e3, Int.toNat_natCast, List.length_set] at q
      refine ⟨_, q, ⟨m', i + 1, e - 1, _, rfl, hrv, by rw [List.length_set, List.length_set]; exact hr, by omega, by omega, by omega⟩, ?_⟩
      rw [hμ, hμ]
      omega
    · right
      have p1 : ¬ (i : Int) < (e : Int) - 1 := by omega
      simp only [decide_eq_true_eq, p1, if_false] at q
      refine ⟨_, q, ?_⟩
      rw [← hrv]
      cases m with
      | zero => rfl
      | succ m =>
        show _ = fin (if i + 1 < e then rv m (i + 1) (e - 1) (swp r i (e - 1)) else r)
        rw [if_neg h]) (st 0 ((l.length : Int) - 1) l) ⟨l.length, 0, l.length, l, rfl, rv_reverse l, rfl, Nat.le_refl _, by omega, by omega⟩
  exact h1

theorem L65_spec {r : List Int} (hr : r.length < 1000000000) : L65 (((), ()), (r, ())) = some (((), ()), r.reverse, ()) := by
  show F65 Lg65_1 (((), ()), (r, ())) = _
  rw [F65_eq, wi (by omega) (by omega)]
  have := turn_loop (f := S65_1) (st := fun i k r => (((), i, k, ()), (r, ()))) (fin := fun r => (((), ()), r, ())) (fun i k r => S65_1_eq i k r) (fun x => (x.1.2.2.1 - x.1.2.1 + 1).toNat) (fun _ _ _ => rfl) r hr
  rw [show Lg65_1 (((), 0, (r.length : Int) - 1, ()), r, ()) = _ from this]
  rfl

end Go.Proofs.Rf
/- Text, in both texts: the digits. -/
namespace Go.Proofs.Rf
open Go Go.RowKit

theorem castB (m : Nat) : ((4294967296 ^ m : Nat) : Int) = (4294967296 : Int) ^ m := Int.natCast_pow 4294967296 m

theorem lim_length_of {n k : Nat} (h : n < 4294967296 ^ k) : (lim n).length ≤ k := by
  by_cases h0 : n = 0
  · subst h0; rw [lim_zero]; simp
  · have hp : 0 < (lim n).length := by
      rcases Nat.eq_zero_or_pos (lim n).length with q | q
      · exact (h0 (lim_eq_nil.1 (List.eq_nil_of_length_eq_zero q))).elim
      · exact q
    obtain ⟨m, hm⟩ : ∃ m, (lim n).length = m + 1 := ⟨(lim n).length - 1, by omega⟩
    have h1 := (Nm_lim n).last hp
    have h2 := val_take_succ (lim n) m
    rw [← hm, List.take_length, val_lim] at h2
    have h3 := val_nonneg ((Wf_lim n).take m)
    have h4 := (Wf_lim n).getD m
    rw [hm, Nat.add_sub_cancel] at h1
    have h5 : (4294967296 : Int) ^ m ≤ n := by
      have h6 : (4294967296 : Int) ^ m * 1 ≤ 4294967296 ^ m * (lim n).getD m 0 := Int.mul_le_mul_of_nonneg_left (by omega) (Int.le_of_lt (powB_pos m))
      omega
    have h7 : 4294967296 ^ m ≤ n := by rw [← castB] at h5; exact Int.ofNat_le.1 h5
    have h8 : 4294967296 ^ m < 4294967296 ^ k := by omega
    have := (Nat.pow_lt_pow_iff_right (by decide : 1 < 4294967296)).1 h8
    omega

theorem lim_lt (n : Nat) : n < 4294967296 ^ (lim n).length := by
  have := val_lt (Wf_lim n)
  rw [val_lim, ← castB] at this
  exact Int.ofNat_lt.1 this

theorem lim_length_iff {n k : Nat} : (lim n).length ≤ k ↔ n < 4294967296 ^ k :=
  ⟨fun h => Nat.lt_of_lt_of_le (lim_lt n) (Nat.pow_le_pow_right (by decide) h), lim_length_of⟩

theorem lim_length_mono {a b : Nat} (h : a ≤ b) : (lim a).length ≤ (lim b).length := lim_length_of (Nat.lt_of_le_of_lt h (lim_lt b))

/-! ### The program -/
theorem Y98_go {b n : Nat} (hb : 2 ≤ b) (hb1 : b ≤ 36) (hn : n ≠ 0) (hl : (lim n).length < 1000000000) :
    Y98 L99 (((), (), ()), ((lim n, ()), ((b : Int), ()), ())) = some (RY.yl ((n % b : Nat) : Int) (((), (), ()), (lim (n / b), ()), ((b : Int), ()), ())) := by
  have hp : 0 < (lim n).length := by
    rcases Nat.eq_zero_or_pos (lim n).length with q | q
    · exact (hn (lim_eq_nil.1 (List.eq_nil_of_length_eq_zero q))).elim
    · exact q
  rw [Y98_eq, L99_spec (Wf_lim n) hl (by omega) (by omega), val_lim]
  simp only [decide_eq_true_eq, gt_iff_lt, show (0 : Int) < ((lim n).length : Int) by omega, if_true, Option.bind_some]
  have e1 : ((n : Int) / (b : Int)).toNat = n / b := by
    rw [← Int.natCast_ediv]
    rfl
  rw [e1, ← Int.natCast_emod]

theorem Y98_done (b : Int) : Y98 L99 (((), (), ()), ((lim 0, ()), (b, ()), ())) = some RY.done := by
  rw [Y98_eq, lim_zero]
  rfl

theorem colY_digs {b : Nat} (hb : 2 ≤ b) (hb1 : b ≤ 36) : ∀ (k n : Nat), (lim n).length < 1000000000 → (digs b n).length ≤ k → colY (Y98 L99) (k + 1) (((), (), ()), ((lim n, ()), ((b : Int), ()), ())) = some (digs b n)
  | k, n, hl, hk => by
    by_cases h0 : n = 0
    · subst h0
      unfold colY
      rw [Y98_done, digs_zero]
    · rw [digs_pos h0 hb] at hk ⊢
      obtain ⟨k, rfl⟩ : ∃ k', k = k' + 1 := ⟨k - 1, by simp at hk; omega⟩
      unfold colY
      rw [Y98_go hb hb1 h0 hl]
      simp only
      rw [colY_digs hb hb1 k (n / b) (by have := lim_length_mono (Nat.div_le_self n b); omega) (by simpa using hk)]
termination_by k => k

theorem LD98_spec {b n : Nat} (hb : 2 ≤ b) (hb1 : b ≤ 36) (hl : (lim n).length < 1000000000) : LD98 (((), (), ()), ((lim n, ()), ((b : Int), ()), ())) = some (digs b n) := by
  refine colLim_some ((digs b n).length + 1) ?_
  show (B98 L99 (((), (), ()), ((lim n, ()), ((b : Int), ()), ()))).bind _ = _
  rw [B98_eq]
  exact colY_digs hb hb1 _ n hl (Nat.le_refl _)

theorem S16_fold {neg : Bool} {a : List Int} : ∀ (xs r : List Int), (∀ e ∈ xs, 0 ≤ e ∧ e < 36) → r.length + xs.length ≤ 4294967296 →
    Lg16_8 xs (((), (), ()), ((neg, a, ()), ((), ()), r, ())) = some (.inl (((), (), ()), ((neg, a, ()), ((), ()), r ++ xs.map chr, ())))
  | [], r, _, _ => by
    rw [List.map_nil, List.append_nil]
    rfl
  | e :: xs, r, he, hl => by
    have h1 := he e (by simp)
    have hl : r.length + (xs.length + 1) ≤ 4294967296 := hl
    obtain ⟨i, hi⟩ := Int.eq_ofNat_of_zero_le h1.1
    have h2 : S16_8 e (((), (), ()), ((neg, a, ()), ((), ()), r, ())) = some (.inl (((), (), ()), ((neg, a, ()), ((), ()), r ++ [chr e], ()))) := by
      rw [S16_8_eq]
      rw [if_pos h1.1, if_pos h1.2, if_pos (by simp; omega)]
      have h3 := tb36 ⟨i, by omega⟩
      rw [hi, Int.toNat_natCast, h3]
    have h4 : Lg16_8 (e :: xs) (((), (), ()), ((neg, a, ()), ((), ()), r, ())) = Lg16_8 xs (((), (), ()), ((neg, a, ()), ((), ()), r ++ [chr e], ())) := foldR_cons h2
    rw [h4]
    have := S16_fold (neg := neg) (a := a) xs (r ++ [chr e]) (fun e' h' => he e' (by simp [h'])) (by simp; omega)
    rw [List.map_cons, show r ++ chr e :: List.map chr xs = r ++ [chr e] ++ List.map chr xs by simp]
    exact this

/-- A right number's numeral in a base. -/
def textOf (neg : Bool) (b n : Nat) : List UInt8 :=
  if n = 0 then [48] else ((if neg = true then (digs b n).map chr ++ [45] else (digs b n).map chr).reverse).map fun n => UInt8.ofNat n.toNat

theorem L16_spec {z : Int} {b : Nat} (hb : 2 ≤ b) (hb1 : b ≤ 36) (hl : (lim z.natAbs).length ≤ 200) : L16 (zl z, (b : Int), ()) = some ((textOf (decide (z < 0)) b z.natAbs, 0, ()), ()) := by
  unfold zl
  show F16 L22 L52 L53 L54 L63 L64 L65 LD98 Lg16_8 ((decide (z < 0), lim z.natAbs), (b : Int), ()) = _
  rw [F16_eq, L22_spec (by omega), L54_spec, err_zl hl]
  simp only [Option.bind_some]
  rw [L53_spec]
  simp only [Option.bind_some]
  rw [L52_two]
  simp only [Option.bind_some]
  have hbb : decide (2 ≤ (b : Int) ∧ (b : Int) ≤ 36) = true := by
    rw [decide_eq_true_eq]
    omega
  rw [hbb]
  simp only [fst2, Bool.not_true, Bool.false_eq_true, if_false, if_true, beq_self_eq_true]
  unfold textOf
  by_cases h0 : z.natAbs = 0
  · rw [h0, lim_zero]
    simp
  · have hp : (lim z.natAbs).length ≠ 0 := by
      intro q
      exact h0 (lim_eq_nil.1 (List.eq_nil_of_length_eq_zero q))
    have hp' : ((((lim z.natAbs).length : Nat) : Int) == 0) = false := by
      rw [beq_eq_false_iff_ne]
      omega
    rw [hp', if_neg h0]
    simp only [Bool.false_eq_true, if_false]
    rw [show L63 ((decide (z < 0), lim z.natAbs), ()) = some ((lim z.natAbs, ()), ()) from F63_eq _ _]
    simp only [Option.bind_some]
    rw [w32 (n := (b : Int)) (by omega) (by omega)]
    rw [show L64 (lim z.natAbs, (b : Int), ()) = some ((((), (), ()), ()), (lim z.natAbs, ()), ((b : Int), ()), ()) from F64_eq _ _]
    simp only [Option.bind_some]
    have hd := LD98_spec (n := z.natAbs) hb hb1 (by omega)
    rw [hd]
    simp only [Option.bind_some]
    have hlen := digs_length hb (32 * 200) z.natAbs (by
      have := lim_length_iff.1 hl
      rw [show (4294967296 : Nat) = 2 ^ 32 from rfl, ← Nat.pow_mul] at this
      exact this)
    have hf := S16_fold (neg := decide (z < 0)) (a := lim z.natAbs) (digs b z.natAbs) [] (fun e he => by have := digs_lt hb z.natAbs e he; omega) (by simp; omega)
    rw [hf]
    simp only [Option.bind_some, Sum.elim_inl, List.nil_append]
    by_cases hz : z < 0
    · simp only [hz, decide_true, if_true]
      rw [if_pos (by simp; omega), L65_spec (by simp; omega)]
      rfl
    · simp only [hz, decide_false, Bool.false_eq_true, if_false]
      rw [L65_spec (by simp; omega)]
      rfl
end Go.Proofs.Rf
/- The reference's Text. -/
namespace Go.Proofs.Rf
open Go Go.RowKit
end Go.Proofs.Rf
/- Bits and Wrap, in both texts. -/
namespace Go.Proofs.Rf
open Go Go.RowKit

theorem getD_val : ∀ {l : List Int} (_ : Wf l) {n : Nat} (_ : val l = (n : Int)) (i : Nat), l.getD i 0 = ((n / 4294967296 ^ i % 4294967296 : Nat) : Int)
  | [], _, n, hv, i => by
    have : n = 0 := by
      simp only [val] at hv
      omega
    subst this
    simp
  | x :: r, hw, n, hv, i => by
    have hx := hw.head
    have hr := val_nonneg hw.tail
    simp only [val] at hv
    cases i with
    | zero =>
      show x = _
      simp only [Nat.pow_zero, Nat.div_one]
      omega
    | succ i =>
      show r.getD i 0 = _
      have h1 : val r = ((n / 4294967296 : Nat) : Int) := by omega
      rw [getD_val hw.tail h1 i, Nat.div_div_eq_div_mul, Nat.pow_succ, Nat.mul_comm (4294967296 ^ i)]

theorem limG (n i : Nat) : (lim n).getD i 0 = ((n / 4294967296 ^ i % 4294967296 : Nat) : Int) := getD_val (Wf_lim n) (val_lim n) i

theorem B_pow (i : Nat) : 4294967296 ^ i = 2 ^ (32 * i) := by
  rw [show (4294967296 : Nat) = 2 ^ 32 from rfl, ← Nat.pow_mul]

/-- A bit of a number, off its limbs. -/
theorem bit_val {l : List Int} (hw : Wf l) {n : Nat} (hv : val l = (n : Int)) (j : Nat) : bitop .and .u32 (Int.fdiv (l.getD (j / 32) 0) (2 ^ (j % 32))) 1 = ((n / 2 ^ j % 2 : Nat) : Int) := by
  rw [getD_val hw hv, fdiv_pow]
  have h1 : n / 4294967296 ^ (j / 32) % 4294967296 / 2 ^ (j % 32) < 4294967296 := Nat.lt_of_le_of_lt (Nat.div_le_self _ _) (Nat.mod_lt _ (by decide))
  have h2 := and32 (y := 1) h1 (by decide)
  rw [show (1 : Int) = ((1 : Nat) : Int) from rfl, h2, Nat.and_one_is_mod]
  congr 1
  rw [show (4294967296 : Nat) = 2 ^ (j % 32) * 2 ^ (31 - j % 32) * 2 by
    rw [← Nat.pow_add, show j % 32 + (31 - j % 32) = 31 by omega]]
  rw [Nat.mul_assoc, Nat.mod_mul_right_div_self, Nat.mul_comm _ 2, Nat.mod_mul_right_mod]
  rw [show 2 ^ (j % 32) * (2 * 2 ^ (31 - j % 32)) = 4294967296 by
    rw [Nat.mul_comm 2, ← Nat.pow_succ, ← Nat.pow_add, show j % 32 + (31 - j % 32).succ = 32 by omega]]
  rw [B_pow, Nat.div_div_eq_div_mul, ← Nat.pow_add, Nat.div_add_mod]

theorem wi_div {j : Nat} (hj : j < 1000000000000) : IntKind.i64.wrap (Int.tdiv (j : Int) 32) = ((j / 32 : Nat) : Int) := by
  rw [Int.tdiv_eq_ediv_of_nonneg (by omega), wi (by omega) (by omega)]
  omega
theorem wi_mod (j : Nat) : Int.tmod (j : Int) 32 = ((j % 32 : Nat) : Int) := by
  rw [Int.tmod_eq_emod_of_nonneg (by omega)]
  omega

/-- The highest limb. -/
theorem lim_top {n : Nat} (h : n ≠ 0) : ∃ k, (lim n).length = k + 1 ∧ (lim n).getD k 0 = ((n / 4294967296 ^ k : Nat) : Int) ∧ n / 4294967296 ^ k ≠ 0 ∧ n / 4294967296 ^ k < 4294967296 := by
  have hp : 0 < (lim n).length := by
    rcases Nat.eq_zero_or_pos (lim n).length with q | q
    · exact (h (lim_eq_nil.1 (List.eq_nil_of_length_eq_zero q))).elim
    · exact q
  obtain ⟨k, hk⟩ : ∃ k, (lim n).length = k + 1 := ⟨(lim n).length - 1, by omega⟩
  have h1 := lim_lt n
  have h2 : n / 4294967296 ^ k < 4294967296 := by
    refine (Nat.div_lt_iff_lt_mul (Nat.pow_pos (by decide))).2 ?_
    rw [hk, Nat.pow_succ, Nat.mul_comm] at h1
    exact h1
  have h3 := limG n k
  rw [Nat.mod_eq_of_lt h2] at h3
  have h4 := (Nm_lim n).last hp
  rw [hk, Nat.add_sub_cancel, h3] at h4
  exact ⟨k, hk, h3, by omega, h2⟩

theorem L100_spec {x : Nat} (h : x < 4294967296) : L100 ((x : Int), ()) = some (((32 - (bl x : Int)), ()), ()) := by
  show F100 L113 ((x : Int), ()) = _
  rw [F100_eq, show L113 ((x : Int), ()) = _ from F113_spec h]
  have := bl_le_of (k := 32) (x := x) (by simpa using h)
  simp only [Option.bind_some]
  rw [wi (by omega) (by omega)]

theorem L69_spec {n : Nat} (hl : (lim n).length < 1000000000) : L69 (lim n, ()) = some (((bl n : Int), ()), ()) := by
  show F69 L100 (lim n, ()) = _
  rw [F69_eq]
  by_cases h : n = 0
  · subst h
    rw [lim_zero]
    rfl
  · obtain ⟨k, h1, h2, h3, h4⟩ := lim_top h
    have e1 : IntKind.i64.wrap (((lim n).length : Int) - 1) = (k : Int) := by rw [wi (by omega) (by omega)]; omega
    have p1 : (((lim n).length : Int) == 0) = false := by
      rw [beq_eq_false_iff_ne]
      omega
    have p2 : (k : Int) < ((lim n).length : Int) := by omega
    have p3 : (0 : Int) ≤ (k : Int) := by omega
    simp only [e1, p1, Bool.false_eq_true, if_false, p2, p3, if_true, Int.toNat_natCast, h2]
    rw [L100_spec h4]
    simp only [Option.bind_some]
    have h5 := bl_le_of (k := 32) (x := n / 4294967296 ^ k) (by simpa using h4)
    rw [B_pow] at h3 h5 ⊢
    have h6 := bl_shift h3
    rw [wi (n := 32 * ((lim n).length : Int)) (by omega) (by omega), wi (by omega) (by omega)]
    rw [show 32 * ((lim n).length : Int) - (32 - ((bl (n / 2 ^ (32 * k)) : Nat) : Int)) = (bl n : Int) by omega]

end Go.Proofs.Rf
/- Comparing and differences of limbs, in both texts. -/
namespace Go.Proofs.Rf
open Go Go.RowKit

theorem xor32 {x y : Nat} (hx : x < 4294967296) (hy : y < 4294967296) : bitop .xor .u32 (x : Int) (y : Int) = ((x ^^^ y : Nat) : Int) := by
  show IntKind.u32.wrap ((((BitVec.ofInt 32 (x : Int)) ^^^ (BitVec.ofInt 32 (y : Int))).toNat : Nat) : Int) = _
  rw [BitVec.toNat_xor, ofInt_toNat 32 x hx, ofInt_toNat 32 y hy]
  have := @Nat.xor_lt_two_pow x y 32 hx hy
  exact w32 (by omega) (by omega)

theorem top_bit {n : Nat} (h : n < 4294967296) : n / 2 ^ 31 = (n.testBit 31).toNat := by
  rw [Nat.testBit_eq_decide_div_mod_eq]
  by_cases q : n / 2 ^ 31 % 2 = 1
  · rw [decide_eq_true q]
    show _ = 1
    omega
  · rw [decide_eq_false q]
    show _ = 0
    omega

theorem ones_bit : Nat.testBit 4294967295 31 = true := by decide

/-- Sub32. -/
theorem F106_spec {x y b : Int} (hx : 0 ≤ x) (hx1 : x < 4294967296) (hy : 0 ≤ y) (hy1 : y < 4294967296) (hb : 0 ≤ b) (hb1 : b ≤ 1) :
    F106 (x, y, b, ()) = some (((x - y - b) % 4294967296, if x - y - b < 0 then 1 else 0, ()), ()) := by
  obtain ⟨x, rfl⟩ := Int.eq_ofNat_of_zero_le hx
  obtain ⟨y, rfl⟩ := Int.eq_ofNat_of_zero_le hy
  rw [F106_eq]
  have e1 : IntKind.u32.wrap (IntKind.u32.wrap ((x : Int) - y) - b) = ((x : Int) - y - b) % 4294967296 := by
    rw [w32m, w32m]
    omega
  rw [e1]
  obtain ⟨d, hd⟩ := Int.eq_ofNat_of_zero_le (show 0 ≤ ((x : Int) - y - b) % 4294967296 by omega)
  have hd1 : d < 4294967296 := by omega
  rw [hd]
  have c1 : bitop .xor .u32 4294967295 (x : Int) = ((4294967295 ^^^ x : Nat) : Int) := xor32 (by decide) (by omega)
  have l1 := @Nat.xor_lt_two_pow 4294967295 x 32 (by decide) (by omega)
  have c2 : bitop .and .u32 ((4294967295 ^^^ x : Nat) : Int) (y : Int) = _ := and32 l1 (by omega)
  have l2 := @Nat.xor_lt_two_pow x y 32 (by omega) (by omega)
  have c3 : bitop .xor .u32 (x : Int) (y : Int) = ((x ^^^ y : Nat) : Int) := xor32 (by omega) (by omega)
  have c4 : bitop .xor .u32 4294967295 ((x ^^^ y : Nat) : Int) = ((4294967295 ^^^ (x ^^^ y) : Nat) : Int) := xor32 (by decide) l2
  have l3 := @Nat.xor_lt_two_pow 4294967295 (x ^^^ y) 32 (by decide) l2
  have c5 : bitop .and .u32 ((4294967295 ^^^ (x ^^^ y) : Nat) : Int) (d : Int) = _ := and32 l3 hd1
  have l4 : (4294967295 ^^^ x) &&& y < 4294967296 := Nat.lt_of_le_of_lt Nat.and_le_right (by omega)
  have l5 : (4294967295 ^^^ (x ^^^ y)) &&& d < 4294967296 := Nat.lt_of_le_of_lt Nat.and_le_right hd1
  have c6 : bitop .or .u32 (((4294967295 ^^^ x) &&& y : Nat) : Int) (((4294967295 ^^^ (x ^^^ y)) &&& d : Nat) : Int) = _ := or32 l4 l5
  have l6 := @Nat.or_lt_two_pow _ _ 32 l4 l5
  rw [c1, c2, c3, c4, c5, c6, fdiv_pow, top_bit l6]
  have e2 : (((((4294967295 ^^^ x) &&& y) ||| ((4294967295 ^^^ (x ^^^ y)) &&& d)).testBit 31).toNat : Int) = if (x : Int) - y - b < 0 then 1 else 0 := by
    rw [Nat.testBit_or, Nat.testBit_and, Nat.testBit_and, Nat.testBit_xor, Nat.testBit_xor, Nat.testBit_xor, ones_bit]
    have tx := top_bit (show x < 4294967296 by omega)
    have ty := top_bit (show y < 4294967296 by omega)
    have td := top_bit hd1
    generalize x.testBit 31 = X at *
    generalize y.testBit 31 = Y at *
    generalize d.testBit 31 = D at *
    cases X <;> cases Y <;> cases D <;> simp only [Bool.toNat_true, Bool.toNat_false] at tx ty td <;> simp <;> omega
  rw [e2]

/-- Add32. -/
theorem F107_spec {x y b : Int} (hx : 0 ≤ x) (hx1 : x < 4294967296) (hy : 0 ≤ y) (hy1 : y < 4294967296) (hb : 0 ≤ b) (hb1 : b ≤ 1) :
    F107 (x, y, b, ()) = some (((x + y + b) % 4294967296, (x + y + b) / 4294967296, ()), ()) := by
  rw [F107_eq]
  rw [w64 (n := x) (by omega) (by omega), w64 (n := y) (by omega) (by omega), w64 (n := b) (by omega) (by omega), w64 (n := x + y) (by omega) (by omega), w64 (n := x + y + b) (by omega) (by omega), w32m]
  have : (x + y + b).fdiv (2 ^ 32) = (x + y + b) / 4294967296 := by rw [Int.fdiv_eq_ediv_of_nonneg _ (by decide)]; rfl
  rw [this, w32 (by omega) (by omega)]

/-! ### Comparing -/
theorem val_split (l : List Int) (k : Nat) (h : k ≤ l.length) : val l = val (l.take k) + 4294967296 ^ k * val (l.drop k) := by
  have := val_append (l.take k) (l.drop k)
  rw [List.take_append_drop, List.length_take, Nat.min_eq_left h] at this
  exact this

theorem val_take_lt {l : List Int} (hw : Wf l) (k : Nat) (h : k ≤ l.length) : val (l.take k) < 4294967296 ^ k := by
  have := val_lt (hw.take k)
  rw [List.length_take, Nat.min_eq_left h] at this
  exact this

/-- Equal above a place, less there: less. -/
theorem lt_at {a b : List Int} (wa : Wf a) (wb : Wf b) {k : Nat} (ha : k < a.length) (hb : k < b.length) (he : a.drop (k + 1) = b.drop (k + 1)) (hlt : a.getD k 0 < b.getD k 0) : val a < val b := by
  rw [val_split a k (by omega), val_split b k (by omega), drop_at ha, drop_at hb, he]
  simp only [val]
  have h1 := val_take_lt wa k (by omega)
  have h2 := val_nonneg (wb.take k)
  have h3 := powB_pos k
  generalize (4294967296 : Int) ^ k = P at *
  generalize val (b.drop (k + 1)) = V at *
  generalize a.getD k 0 = A at *
  generalize b.getD k 0 = C at *
  have h4 : P * (A + 4294967296 * V) + P = P * (A + 1 + 4294967296 * V) := by grind
  have h5 : P * (A + 1 + 4294967296 * V) ≤ P * (C + 4294967296 * V) := Int.mul_le_mul_of_nonneg_left (by omega) (by omega)
  omega

theorem lim_shorter {a b : Nat} (h : (lim a).length < (lim b).length) : a < b := by
  rcases Nat.lt_or_ge a b with q | q
  · exact q
  · have := lim_length_mono q
    omega

/-- The sign of a difference. -/
def sg (a b : Nat) : Int := if a < b then -1 else if a = b then 0 else 1

theorem L79_spec {a b : Nat} (ha : (lim a).length < 1000000000) (hb : (lim b).length < 1000000000) : ∃ c : Int, L79 (lim a, lim b, ()) = some ((c, ()), ()) ∧ (c < 0 ↔ a < b) ∧ (c = 0 ↔ a = b) := by
  have q : ∃ c : Int, F79 L108 LD115 Lg79_4 (lim a, lim b, ()) = some ((c, ()), ()) ∧ (c < 0 ↔ a < b) ∧ (c = 0 ↔ a = b) := by
    rw [F79_eq, L108_spec]
    by_cases hl : (lim a).length = (lim b).length
    · have p : (!((lim a).length : Int) == ((lim b).length : Int)) = false := by rw [hl]; simp
      rw [p]
      simp only [Bool.false_eq_true, if_false, Option.bind_some]
      rw [LD115_spec (by omega)]
      simp only [Option.bind_some]
      have h := foldR_desc (l := lim a) (f := S79_4) (fun k x => x = (((), (), ()), ((lim b, ()), (0, ()), ())) ∧ (lim a).drop k = (lim b).drop k) (fun z => (z = (((), ()), (-1, ()), ()) ∧ a < b) ∨ (z = (((), ()), (1, ()), ()) ∧ b < a)) (by
        rintro j x hj ⟨rfl, he⟩
        have e := S79_4_eq (j : Int) ((lim a).getD j 0) (lim b) 0
        have p1 : (0 : Int) ≤ (j : Int) := by omega
        have p2 : (j : Int) < ((lim b).length : Int) := by omega
        simp only [decide_eq_true_eq, p1, p2, if_true, Int.toNat_natCast] at e
        by_cases h1 : (lim a).getD j 0 = (lim b).getD j 0
        · left
          have p3 : (!(lim a).getD j 0 == (lim b).getD j 0) = false := by rw [h1]; simp
          rw [p3] at e
          refine ⟨_, e, rfl, ?_⟩
          rw [drop_at (l := lim a) hj, drop_at (l := lim b) (by omega), he, h1]
        · right
          have p3 : (!(lim a).getD j 0 == (lim b).getD j 0) = true := by
            rw [Bool.not_eq_true', beq_eq_false_iff_ne]
            exact h1
          rw [if_pos p3] at e
          by_cases h2 : (lim a).getD j 0 < (lim b).getD j 0
          · rw [if_pos h2] at e
            have h3 := lt_at (Wf_lim a) (Wf_lim b) hj (by omega) he h2
            rw [val_lim, val_lim] at h3
            exact ⟨_, e, .inl ⟨rfl, by omega⟩⟩
          · rw [if_neg h2] at e
            have h3 := lt_at (Wf_lim b) (Wf_lim a) (by omega) hj he.symm (by omega)
            rw [val_lim, val_lim] at h3
            exact ⟨_, e, .inr ⟨rfl, by omega⟩⟩) (lim a).length (((), (), ()), ((lim b, ()), (0, ()), ())) (Nat.le_refl _) ⟨rfl, by rw [List.drop_of_length_le (Nat.le_refl _), List.drop_of_length_le (by omega)]⟩
      rcases h with ⟨y, h1, rfl, h2⟩ | ⟨z, h1, hz⟩
      · have h1 : Lg79_4 (desc (lim a) (lim a).length) (((), (), ()), ((lim b, ()), (0, ()), ())) = _ := h1
        rw [h1]
        rw [List.drop_zero, List.drop_zero] at h2
        have := lim_inj h2
        exact ⟨0, rfl, by omega, by omega⟩
      · have h1 : Lg79_4 (desc (lim a) (lim a).length) (((), (), ()), ((lim b, ()), (0, ()), ())) = _ := h1
        rw [h1]
        rcases hz with ⟨rfl, hz⟩ | ⟨rfl, hz⟩
        · exact ⟨-1, rfl, by omega, by omega⟩
        · exact ⟨1, rfl, by omega, by omega⟩
    · have p : (!((lim a).length : Int) == ((lim b).length : Int)) = true := by
        rw [Bool.not_eq_true', beq_eq_false_iff_ne]
        omega
      rw [if_pos p, wi (by omega) (by omega)]
      refine ⟨_, rfl, ?_, ?_⟩
      · constructor
        · intro h
          exact lim_shorter (by omega)
        · intro h
          have := lim_length_mono (Nat.le_of_lt h)
          omega
      · constructor
        · intro h
          omega
        · rintro rfl
          omega
  exact q
end Go.Proofs.Rf
/- Differences of limbs, in both texts. -/
namespace Go.Proofs.Rf
open Go Go.RowKit

theorem sub_limb {P c x y V : Int} (t : Int) (h : t = if x - y - c < 0 then 1 else 0) : V + P * ((x - y - c) % 4294967296) - P * 4294967296 * t = V + P * x - P * y - P * c ∨ ¬ (0 ≤ x ∧ x < 4294967296 ∧ 0 ≤ y ∧ y < 4294967296 ∧ 0 ≤ c ∧ c ≤ 1) := by
  by_cases q : 0 ≤ x ∧ x < 4294967296 ∧ 0 ≤ y ∧ y < 4294967296 ∧ 0 ≤ c ∧ c ≤ 1
  · left
    have h2 : (x - y - c) % 4294967296 = x - y - c + 4294967296 * t := by
      rw [h]
      split <;> omega
    rw [h2]
    grind
  · exact .inr q

/-- One round of a difference: what its invariant says. -/
structure SubOK (a b : List Int) (i : Nat) (r : List Int) (c : Int) : Prop where
  wf : Wf r
  c0 : 0 ≤ c
  c1 : c ≤ 1
  v : val (r.take i) - 4294967296 ^ i * c = val (a.take i) - val (b.take i)

def bor (d : Int) : Int := if d < 0 then 1 else 0

theorem bor_range (d : Int) : 0 ≤ bor d ∧ bor d ≤ 1 := by
  unfold bor
  split <;> omega

theorem SubOK.step {a b r r' : List Int} {i : Nat} {c : Int} (h : SubOK a b i r c) (wa : Wf a) (wb : Wf b) (hr : r'.take i = r.take i) (hw : Wf r') (hd : r'.getD i 0 = (a.getD i 0 - b.getD i 0 - c) % 4294967296) : SubOK a b (i + 1) r' (bor (a.getD i 0 - b.getD i 0 - c)) := by
  refine ⟨hw, (bor_range _).1, (bor_range _).2, ?_⟩
  rw [val_take_succ, val_take_succ, val_take_succ, powB, hr, hd]
  have h1 := wa.getD i
  have h2 := wb.getD i
  have h3 := h.v
  have h4 := sub_limb (P := 4294967296 ^ i) (c := c) (x := a.getD i 0) (y := b.getD i 0) (V := val (r.take i)) (bor (a.getD i 0 - b.getD i 0 - c)) rfl
  rcases h4 with h4 | h4
  · grind
  · exact (h4 ⟨h1.1, h1.2, h2.1, h2.2, h.c0, h.c1⟩).elim

theorem SubOK.done {a b r : List Int} {c : Int} (h : SubOK a b a.length r c) (hr : r.length = a.length) (hb : b.length ≤ a.length) (hle : val b ≤ val a) : val r = val a - val b := by
  have h1 := h.v
  rw [val_take_all (by omega), val_take_all (Nat.le_refl _), val_take_all hb] at h1
  have h2 := val_lt h.wf
  rw [hr] at h2
  have h3 := h.c0
  have h4 := h.c1
  have h5 := powB_pos a.length
  generalize (4294967296 : Int) ^ a.length = P at *
  rcases (show c = 0 ∨ c = 1 by omega) with rfl | rfl
  · omega
  · omega

theorem lim_sub {a b : Nat} (h : b ≤ a) {v : Int} (hv : v = val (lim a) - val (lim b)) : lim v.toNat = lim (a - b) := by
  rw [val_lim, val_lim] at hv
  congr 1
  omega

theorem S110_step {a b r : List Int} {c : Int} {i m : Nat} (wa : Wf a) (wb : Wf b) (hc : 0 ≤ c) (hc1 : c ≤ 1) (hm : m = a.length) (hr : r.length = m) (hi : i < m) (hs : m < 1000000000) :
    S110_4 L71 L106 ((a, b, (), c, (m : Int), (i : Int), ()), (r, ())) = some (.inl ((a, b, (), bor (a.getD i 0 - b.getD i 0 - c), (m : Int), ((i + 1 : Nat) : Int), ()), (r.set i ((a.getD i 0 - b.getD i 0 - c) % 4294967296), ()))) := by
  have xa := wa.getD i
  have xb := wb.getD i
  rw [S110_4_eq]
  have q1 : L71 (b, (i : Int), ()) = _ := F71_spec (a := b) i
  rw [q1]
  simp only [Option.bind_some, Int.toNat_natCast]
  have q2 : L106 (a.getD i 0, b.getD i 0, c, ()) = _ := F106_spec xa.1 xa.2 xb.1 xb.2 hc hc1
  rw [q2]
  have e6 : IntKind.i64.wrap ((i : Int) + 1) = ((i + 1 : Nat) : Int) := by rw [wi (by omega) (by omega)]; omega
  have p1 : (i : Int) < (m : Int) := by omega
  have p2 : (0 : Int) ≤ (i : Int) := by omega
  have p3 : (i : Int) < (a.length : Int) := by omega
  have p4 : (i : Int) < (r.length : Int) := by omega
  simp only [Option.bind_some, decide_eq_true_eq, p1, p2, p3, p4, if_true, e6]
  rfl

/-- The program's difference. -/
theorem L110_spec {a b : Nat} (h : b ≤ a) (hs : (lim a).length < 1000000000) : L110 (lim a, lim b, ()) = some ((lim (a - b), ()), ()) := by
  have hb := lim_length_mono h
  obtain ⟨z, h1, r, rfl, c, hr, hok⟩ := limL_ind (f := S110_4 L71 L106) (fun x => (lim a).length - x.1.2.2.2.2.2.1.toNat)
    (fun x => ∃ (c : Int) (i : Nat) (r : List Int), x = ((lim a, lim b, (), c, ((lim a).length : Int), (i : Int), ()), (r, ())) ∧ r.length = (lim a).length ∧ i ≤ (lim a).length ∧ SubOK (lim a) (lim b) i r c)
    (fun z => ∃ r, z = (((), ()), (r, ())) ∧ ∃ c, r.length = (lim a).length ∧ SubOK (lim a) (lim b) (lim a).length r c) (by
    rintro x ⟨c, i, r, rfl, hr, hi, hok⟩
    by_cases hd : i < (lim a).length
    · left
      have hz := Int.emod_nonneg ((lim a).getD i 0 - (lim b).getD i 0 - c) (show (4294967296 : Int) ≠ 0 by decide)
      have hz' := Int.emod_lt_of_pos ((lim a).getD i 0 - (lim b).getD i 0 - c) (show (0 : Int) < 4294967296 by decide)
      refine ⟨_, S110_step (Wf_lim a) (Wf_lim b) hok.c0 hok.c1 rfl hr hd hs, ⟨_, i + 1, _, rfl, by rw [List.length_set]; exact hr, by omega, hok.step (Wf_lim a) (Wf_lim b) (take_set_at (Nat.le_refl _)) (hok.wf.set i hz hz') ?_⟩, by simp only [Int.toNat_natCast]; omega⟩
      rw [getD_set, if_pos ⟨rfl, by omega⟩]
    · right
      obtain rfl : i = (lim a).length := by omega
      refine ⟨_, ?_, r, rfl, c, hr, hok⟩
      rw [S110_4_eq, if_neg (by simp)]) ((lim a, lim b, (), 0, ((lim a).length : Int), 0, ()), (List.replicate (lim a).length 0, ())) ⟨0, 0, _, rfl, by simp, by omega, Wf.replicate _, by omega, by omega, by simp [val]⟩
  show F110 L96 Lg110_4 (lim a, lim b, ()) = _
  rw [F110_eq, if_pos (Int.le_refl _), if_pos (show ((lim a).length : Int) ≤ ((4294967296 : Nat) : Int) by omega), Int.toNat_natCast, List.length_replicate]
  have h1 : Lg110_4 ((lim a, lim b, (), 0, ((lim a).length : Int), 0, ()), List.replicate (lim a).length 0, ()) = _ := h1
  rw [h1]
  simp only [Option.bind_some]
  rw [L96_spec hok.wf (by omega)]
  simp only [Option.bind_some]
  rw [lim_sub h (hok.done hr hb (by rw [val_lim, val_lim]; omega))]

end Go.Proofs.Rf
/- Times and divided by a power of two, in the program. -/
namespace Go.Proofs.Rf
open Go Go.RowKit

/-- A limb of a number. -/
def lb (v i : Nat) : Nat := v / 2 ^ (32 * i) % 2 ^ 32

theorem lb_lt (v i : Nat) : lb v i < 4294967296 := Nat.mod_lt _ (by decide)
theorem lb_bit (v i j : Nat) : (lb v i).testBit j = (decide (j < 32) && v.testBit (32 * i + j)) := by
  unfold lb
  rw [Nat.testBit_mod_two_pow, Nat.testBit_div_two_pow, Nat.add_comm]

theorem limB (v i : Nat) : (lim v).getD i 0 = (lb v i : Int) := by
  rw [limG, B_pow]
  rfl

/-- The limbs of a number times a power of two. -/
theorem lb_up {v s i : Nat} (hs : 0 < s) (hs1 : s < 32) (hi : 0 < i) : lb (v * 2 ^ s) i = (lb v i * 2 ^ s % 2 ^ 32) ||| (lb v (i - 1) / 2 ^ (32 - s)) := by
  refine Nat.eq_of_testBit_eq fun j => ?_
  rw [lb_bit, Nat.testBit_or, Nat.testBit_mod_two_pow, Nat.testBit_div_two_pow, Nat.testBit_mul_two_pow, Nat.testBit_mul_two_pow, lb_bit, lb_bit]
  by_cases h1 : j < 32
  · by_cases h2 : s ≤ j
    · have p1 : s ≤ 32 * i + j := by omega
      have p2 : j - s < 32 := by omega
      have p3 : ¬ j + (32 - s) < 32 := by omega
      rw [show 32 * i + j - s = 32 * i + (j - s) by omega]
      simp [h1, h2, p1, p2, p3]
    · have p1 : s ≤ 32 * i + j := by omega
      have p3 : j + (32 - s) < 32 := by omega
      rw [show 32 * i + j - s = 32 * (i - 1) + (j + (32 - s)) by omega]
      simp [h1, h2, p1, p3]
  · have p3 : ¬ j + (32 - s) < 32 := by omega
    simp [h1, p3]

theorem lb_up0 {a s w : Nat} : lb (a * 2 ^ (32 * w) * 2 ^ s) w = lb (a * 2 ^ (32 * w)) w * 2 ^ s % 2 ^ 32 := by
  unfold lb
  rw [Nat.mul_assoc, Nat.mul_comm (2 ^ (32 * w)) (2 ^ s), ← Nat.mul_assoc, Nat.mul_div_cancel _ (Nat.two_pow_pos _), Nat.mul_div_cancel _ (Nat.two_pow_pos _), Nat.mod_mul_mod]

theorem lb_low {v k s i : Nat} (h : i < k) : lb (v * 2 ^ (32 * k) * 2 ^ s) i = 0 := by
  refine Nat.eq_of_testBit_eq fun j => ?_
  rw [lb_bit, Nat.mul_assoc, ← Nat.pow_add, Nat.testBit_mul_two_pow, Nat.zero_testBit]
  by_cases h1 : j < 32
  · have : ¬ 32 * k + s ≤ 32 * i + j := by omega
    simp [this]
  · simp [h1]

/-- The limbs of a number divided by a power of two. -/
theorem lb_down {v s w i : Nat} : (lb v (i + w + 1) * 2 ^ 32 ||| lb v (i + w)) / 2 ^ s % 2 ^ 32 = lb (v / 2 ^ (32 * w + s)) i ∨ ¬ s < 32 := by
  by_cases hs : s < 32
  · left
    refine Nat.eq_of_testBit_eq fun j => ?_
    rw [lb_bit, Nat.testBit_mod_two_pow, Nat.testBit_div_two_pow, Nat.testBit_or, Nat.testBit_mul_two_pow, lb_bit, lb_bit, Nat.testBit_div_two_pow]
    by_cases h1 : j < 32
    · by_cases h2 : 32 ≤ j + s
      · have p1 : j + s - 32 < 32 := by omega
        have p2 : ¬ j + s < 32 := by omega
        rw [show 32 * i + j + (32 * w + s) = 32 * (i + w + 1) + (j + s - 32) by omega]
        simp [h1, h2, p1, p2]
      · have p2 : j + s < 32 := by omega
        rw [show 32 * i + j + (32 * w + s) = 32 * (i + w) + (j + s) by omega]
        simp [h1, h2, p2]
    · simp [h1]
  · exact .inr hs

/-- A number is what its limbs say. -/
theorem val_of_limbs {r : List Int} {v : Nat} (hv : v < 4294967296 ^ r.length) (h : ∀ j, j < r.length → r.getD j 0 = (lb v j : Int)) : Wf r ∧ val r = (v : Int) := by
  constructor
  · intro x hx
    obtain ⟨i, hi, rfl⟩ := List.getElem_of_mem hx
    have := h i hi
    rw [List.getD_eq_getElem?_getD, List.getElem?_eq_getElem hi] at this
    have h2 := lb_lt v i
    have this : r[i] = (lb v i : Int) := this
    omega
  · have h1 : ∀ k, k ≤ r.length → val (r.take k) = ((v % 4294967296 ^ k : Nat) : Int) := by
      intro k
      induction k with
      | zero =>
        intro _
        simp [val, Nat.mod_one]
      | succ k ih =>
        intro hk
        rw [val_take_succ, ih (by omega), h k (by omega)]
        unfold lb
        rw [← B_pow, show (2 : Nat) ^ 32 = 4294967296 from rfl, ← castB, ← Int.natCast_mul, ← Int.natCast_add, Nat.pow_succ, Nat.mod_mul]
    have := h1 r.length (Nat.le_refl _)
    rw [List.take_length, Nat.mod_eq_of_lt hv] at this
    exact this

theorem lb_of_val {r : List Int} (hw : Wf r) {v : Nat} (hv : val r = (v : Int)) (j : Nat) : r.getD j 0 = (lb v j : Int) := by
  rw [getD_val hw hv, B_pow]
  rfl

/-- The row that is shifted. -/
def row0 (a : List Int) (w : Nat) : List Int := List.replicate w 0 ++ a ++ [0]

theorem row0_eq (a : List Int) (w : Nat) : List.take w (List.replicate (a.length + w + 1) 0) ++ List.take ((List.replicate (a.length + w + 1) (0 : Int)).length - w) a ++ List.drop (w + min a.length ((List.replicate (a.length + w + 1) (0 : Int)).length - w)) (List.replicate (a.length + w + 1) 0) = row0 a w := by
  unfold row0
  rw [List.length_replicate, List.take_replicate, List.drop_replicate, Nat.min_eq_left (by omega), Nat.min_eq_left (by omega), List.take_of_length_le (by omega), show a.length + w + 1 - (w + a.length) = 1 by omega]
  rfl

theorem row0_length (a : List Int) (w : Nat) : (row0 a w).length = a.length + w + 1 := by
  unfold row0
  simp
  omega

theorem row0_val (n w : Nat) : Wf (row0 (lim n) w) ∧ val (row0 (lim n) w) = ((n * 2 ^ (32 * w) : Nat) : Int) := by
  unfold row0
  refine ⟨((Wf.replicate w).append (Wf_lim n)).append (Wf.cons (by decide) (by decide) Wf.nil), ?_⟩
  rw [val_append, val_append, val_replicate, val_lim, List.length_replicate, ← castB, B_pow]
  simp only [val, Int.mul_zero, Int.add_zero, Int.zero_add]
  rw [← Int.natCast_mul, Nat.mul_comm]

theorem S76_step {N : Int} {s w k m : Nat} {r : List Int} {v : Nat} (hN : IntKind.i64.wrap (N.tdiv 32) = (w : Int)) (hs : 0 < s) (hs1 : s < 32) (hk : w ≤ k) (hkm : k < m) (hr : r.length = m) (hm : m < 1000000000)
    (hlow : ∀ j, j ≤ k → r.getD j 0 = (lb v j : Int)) (hv : ∃ a, v = a * 2 ^ (32 * w)) :
    S76_6 ((N, (), (s : Int), (k : Int), ()), (r, ())) = some (.inl ((N, (), (s : Int), (k : Int) - 1, ()), (r.set k ((lb (v * 2 ^ s) k : Nat) : Int), ()))) := by
  rw [S76_6_eq, hN]
  have p1 : (k : Int) ≥ (w : Int) := by omega
  have p2 : (0 : Int) ≤ (k : Int) := by omega
  have p3 : (k : Int) < (r.length : Int) := by omega
  have p4 : ¬ (s : Int) < 0 := by omega
  have e1 : IntKind.i64.wrap ((k : Int) - 1) = (k : Int) - 1 := wi (by omega) (by omega)
  have e2 : IntKind.i64.wrap (32 - (s : Int)) = ((32 - s : Nat) : Int) := by rw [wi (by omega) (by omega)]; omega
  have p5 : ¬ ((32 - s : Nat) : Int) < 0 := by omega
  have e3 : min s 32 = s := by omega
  have e4 : min (32 - s) 32 = 32 - s := by omega
  have l0 := lb_lt v k
  have e5 : IntKind.u32.wrap ((lb v k : Int) * 2 ^ s) = ((lb v k * 2 ^ s % 2 ^ 32 : Nat) : Int) := by
    have : (lb v k : Int) * 2 ^ s = ((lb v k * 2 ^ s : Nat) : Int) := by simp
    rw [this, w32m]
    rfl
  have l1 : lb v k * 2 ^ s % 2 ^ 32 < 4294967296 := Nat.mod_lt _ (by decide)
  by_cases h : (k : Int) > (w : Int)
  · have p6 : (0 : Int) ≤ (k : Int) - 1 := by omega
    have p7 : (k : Int) - 1 < (r.length : Int) := by omega
    have e6 : ((k : Int) - 1).toNat = k - 1 := by omega
    have l2 : lb v (k - 1) / 2 ^ (32 - s) < 4294967296 := Nat.lt_of_le_of_lt (Nat.div_le_self _ _) (lb_lt _ _)
    simp only [decide_eq_true_eq, p1, p2, p3, p4, p5, p6, p7, h, if_true, if_false, e1, e2, e6, Int.toNat_natCast, e3, e4, hlow k (Nat.le_refl _), hlow (k - 1) (by omega), e5, fdiv_pow]
    rw [or32 l1 l2, ← lb_up hs hs1 (by omega)]
  · obtain rfl : k = w := by omega
    obtain ⟨a, rfl⟩ := hv
    have e7 : bitop .or .u32 ((lb (a * 2 ^ (32 * k)) k * 2 ^ s % 2 ^ 32 : Nat) : Int) 0 = ((lb (a * 2 ^ (32 * k)) k * 2 ^ s % 2 ^ 32 : Nat) : Int) := by
      have := or32 l1 (show 0 < 4294967296 by decide)
      rw [Nat.or_zero] at this
      exact this
    simp only [decide_eq_true_eq, p1, p2, p3, p4, h, if_true, if_false, e1, Int.toNat_natCast, e3, hlow k (Nat.le_refl _), e5, e7]
    rw [← lb_up0]

/-- up. -/
theorem L76_spec {a n : Nat} (ha : (lim a).length < 1000000) (hn : n < 1000000) : L76 (lim a, (n : Int), ()) = some ((lim (a * 2 ^ n), ()), ()) := by
  have hw := wi_div (j := n) (by omega)
  have e1 : IntKind.i64.wrap (((lim a).length : Int) + ((n / 32 : Nat) : Int)) = (((lim a).length + n / 32 : Nat) : Int) := by rw [wi (by omega) (by omega)]; omega
  have e2 : IntKind.i64.wrap ((((lim a).length + n / 32 : Nat) : Int) + 1) = (((lim a).length + n / 32 + 1 : Nat) : Int) := by rw [wi (by omega) (by omega)]; omega
  have e3 := wi_mod n
  have p1 : (0 : Int) ≤ (((lim a).length + n / 32 + 1 : Nat) : Int) := by omega
  have p2 : (((lim a).length + n / 32 + 1 : Nat) : Int) ≤ ((4294967296 : Nat) : Int) := by omega
  have p3 : (0 : Int) ≤ ((n / 32 : Nat) : Int) := by omega
  have p4 : ((n / 32 : Nat) : Int) ≤ ((List.replicate ((lim a).length + n / 32 + 1) (0 : Int)).length : Int) := by rw [List.length_replicate]; omega
  show F76 L96 Lg76_6 (lim a, (n : Int), ()) = _
  rw [F76_eq]
  simp only [hw, e1, e2, e3, Int.toNat_natCast, p1, p2, p3, p4, Int.le_refl, if_true, row0_eq]
  have hrow := row0_val a (n / 32)
  have hlen := row0_length (lim a) (n / 32)
  have hn2 : n = 32 * (n / 32) + n % 32 := by omega
  by_cases hs : n % 32 = 0
  · have p5 : ¬ ((n % 32 : Nat) : Int) > 0 := by omega
    have hv : a * 2 ^ (32 * (n / 32)) = a * 2 ^ n := by
      congr 2
      omega
    rw [if_neg (by rw [decide_eq_true_eq]; exact p5), L96_spec hrow.1 (by omega), hrow.2, hv]
    rfl
  · have p5 : ((n % 32 : Nat) : Int) > 0 := by omega
    rw [if_pos (by rw [decide_eq_true_eq]; exact p5), hlen]
    have e4 : IntKind.i64.wrap ((((lim a).length + n / 32 + 1 : Nat) : Int) - 1) = (((lim a).length + n / 32 : Nat) : Int) := by rw [wi (by omega) (by omega)]; omega
    rw [e4]
    have hlt : a * 2 ^ (32 * (n / 32)) * 2 ^ (n % 32) < 4294967296 ^ ((lim a).length + n / 32 + 1) := by
      have h1 := lim_lt a
      rw [B_pow] at h1 ⊢
      have h2 : 2 ^ (n % 32) < 2 ^ 32 := Nat.pow_lt_pow_right (by decide) (by omega)
      have h3 : 2 ^ (32 * ((lim a).length + n / 32 + 1)) = 2 ^ (32 * (lim a).length) * 2 ^ (32 * (n / 32)) * 2 ^ 32 := by
        rw [← Nat.pow_add, ← Nat.pow_add]
        congr 1
        omega
      rw [h3]
      exact Nat.mul_lt_mul_of_lt_of_lt ((Nat.mul_lt_mul_right (Nat.two_pow_pos _)).2 h1) h2
    obtain ⟨z, h1, r, rfl, hr, hdig⟩ := limL_ind (f := S76_6) (fun x => (x.1.2.2.2.1 + 1).toNat)
      (fun x => ∃ (k : Nat) (r : List Int), x = (((n : Int), (), ((n % 32 : Nat) : Int), (k : Int) - 1, ()), (r, ())) ∧ n / 32 ≤ k ∧ k ≤ (lim a).length + n / 32 + 1 ∧ r.length = (lim a).length + n / 32 + 1 ∧ (∀ j, j < k → r.getD j 0 = (lb (a * 2 ^ (32 * (n / 32))) j : Int)) ∧ ∀ j, k ≤ j → j < r.length → r.getD j 0 = (lb (a * 2 ^ (32 * (n / 32)) * 2 ^ (n % 32)) j : Int))
      (fun z => ∃ r, z = (((), ()), (r, ())) ∧ r.length = (lim a).length + n / 32 + 1 ∧ ∀ j, j < r.length → r.getD j 0 = (lb (a * 2 ^ (32 * (n / 32)) * 2 ^ (n % 32)) j : Int)) (by
      rintro x ⟨k, r, rfl, hk, hk1, hr, hlo, hhi⟩
      by_cases hd : n / 32 < k
      · left
        obtain ⟨k, rfl⟩ : ∃ k', k = k' + 1 := ⟨k - 1, by omega⟩
        have hst := S76_step (N := (n : Int)) (s := n % 32) (w := n / 32) (k := k) (m := (lim a).length + n / 32 + 1) (r := r) (v := a * 2 ^ (32 * (n / 32))) hw (by omega) (by omega) (by omega) (by omega) hr (by omega) (fun j hj => hlo j (by omega)) ⟨a, rfl⟩
        rw [show (k : Int) = ((k + 1 : Nat) : Int) - 1 by omega] at hst
        refine ⟨_, hst, ⟨k, _, by rw [show ((k + 1 : Nat) : Int) - 1 - 1 = (k : Int) - 1 by omega], by omega, by omega, by rw [List.length_set]; exact hr, fun j hj => ?_, fun j hj hj1 => ?_⟩, by simp only; omega⟩
        · rw [getD_set, if_neg (by omega)]
          exact hlo j (by omega)
        · rw [List.length_set] at hj1
          rw [getD_set]
          by_cases hjk : k = j
          · subst hjk
            rw [if_pos ⟨rfl, hj1⟩]
          · rw [if_neg (by omega)]
            exact hhi j (by omega) hj1
      · right
        obtain rfl : k = n / 32 := by omega
        refine ⟨_, ?_, r, rfl, hr, fun j hj => ?_⟩
        · rw [S76_6_eq, hw, if_neg (by rw [decide_eq_true_eq]; omega)]
        · by_cases hj2 : n / 32 ≤ j
          · exact hhi j hj2 hj
          · have h4 := hlo j (by omega)
            rw [h4, lb_low (by omega)]
            have := lb_low (v := a) (k := n / 32) (s := 0) (i := j) (by omega)
            rw [Nat.pow_zero, Nat.mul_one] at this
            rw [this]) (((n : Int), (), ((n % 32 : Nat) : Int), (((lim a).length + n / 32 : Nat) : Int), ()), (row0 (lim a) (n / 32), ())) ⟨(lim a).length + n / 32 + 1, _, by rw [show (((lim a).length + n / 32 + 1 : Nat) : Int) - 1 = (((lim a).length + n / 32 : Nat) : Int) by omega], by omega, Nat.le_refl _, hlen, fun j _ => lb_of_val hrow.1 hrow.2 j, fun j h1 h2 => by omega⟩
    have h1 : Lg76_6 (((n : Int), (), ((n % 32 : Nat) : Int), (((lim a).length + n / 32 : Nat) : Int), ()), (row0 (lim a) (n / 32), ())) = _ := h1
    rw [h1]
    have hf := val_of_limbs (r := r) (by rw [hr]; exact hlt) hdig
    simp only [Option.bind_some]
    rw [L96_spec hf.1 (by omega), hf.2]
    simp only [Option.bind_some, Int.toNat_natCast]
    rw [Nat.mul_assoc, ← Nat.pow_add, ← hn2]
end Go.Proofs.Rf
