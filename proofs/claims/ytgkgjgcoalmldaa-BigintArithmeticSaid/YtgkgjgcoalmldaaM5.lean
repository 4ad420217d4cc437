/- Texts put together: E410, Q0. -/
import Derived.Test.YtgkgjgcoalmldaaM4
/- The functions, evaluated. -/
set_option linter.unusedVariables false
namespace Go.Proofs.Rf
open Go Go.RowKit
def tbE41_0 : List UInt8 := [(48 : UInt8), (49 : UInt8), (50 : UInt8), (51 : UInt8), (52 : UInt8), (53 : UInt8), (54 : UInt8), (55 : UInt8), (56 : UInt8), (57 : UInt8), (97 : UInt8), (98 : UInt8), (99 : UInt8), (100 : UInt8), (101 : UInt8), (102 : UInt8), (103 : UInt8), (104 : UInt8), (105 : UInt8), (106 : UInt8), (107 : UInt8), (108 : UInt8), (109 : UInt8), (110 : UInt8), (111 : UInt8), (112 : UInt8), (113 : UInt8), (114 : UInt8), (115 : UInt8), (116 : UInt8), (117 : UInt8), (118 : UInt8), (119 : UInt8), (120 : UInt8), (121 : UInt8), (122 : UInt8)]
theorem F22_eq (F52 : (SV.denL ps52) → Option (rs52).den) (F53 : (SV.denL ps53) → Option (rs53).den) (a0_0 : Bool) (a0_1 : List Int) : F22 F52 F53 ((a0_0, a0_1), ()) = (
  (F53 (decide ((↑a0_1.length : Int) > 200), 5, ())).bind fun y =>
    if decide ((↑a0_1.length : Int) > 0) = true then
      if 0 ≤ IntKind.i64.wrap ((↑a0_1.length : Int) - 1) then
        if IntKind.i64.wrap ((↑a0_1.length : Int) - 1) < (↑a0_1.length : Int) then
          if (a0_1.getD (IntKind.i64.wrap ((↑a0_1.length : Int) - 1)).toNat 0 == 0) = true then
            (F53 (true, 1, ())).bind fun y_1 => (F52 ([y.1.1, y_1.1.1], ())).bind fun y => some ((y.1.1, ()), ())
          else
            if ((↑a0_1.length : Int) == 0) = true then
              (F53 (a0_0, 1, ())).bind fun y_1 => (F52 ([y.1.1, y_1.1.1], ())).bind fun y => some ((y.1.1, ()), ())
            else (F53 (false, 1, ())).bind fun y_1 => (F52 ([y.1.1, y_1.1.1], ())).bind fun y => some ((y.1.1, ()), ())
        else none
      else none
    else
      if ((↑a0_1.length : Int) == 0) = true then
        (F53 (a0_0, 1, ())).bind fun y_1 => (F52 ([y.1.1, y_1.1.1], ())).bind fun y => some ((y.1.1, ()), ())
      else (F53 (false, 1, ())).bind fun y_1 => (F52 ([y.1.1, y_1.1.1], ())).bind fun y => some ((y.1.1, ()), ()) : Option rs22.den) := by kernel_rfl
theorem F63_eq (a0_0 : Bool) (a0_1 : List Int) : F63 ((a0_0, a0_1), ()) = (
  some ((a0_1, ()), ()) : Option rs63.den) := by kernel_rfl
theorem F64_eq (a0 : List Int) (base1 : Int) : F64 (a0, base1, ()) = (
  some ((((), (), ()), ()), (a0, ()), (base1, ()), ()) : Option rs64.den) := by kernel_rfl
theorem S65_1_eq (i2 : Int) (j3 : Int) (r0 : List Int) : S65_1 (((), i2, j3, ()), (r0, ())) = (
  if decide (i2 < j3) = true then
    if 0 ≤ j3 then
      if j3 < (↑r0.length : Int) then
        if 0 ≤ i2 then
          if i2 < (↑r0.length : Int) then
            if 0 ≤ i2 then
              if i2 < (↑r0.length : Int) then
                if 0 ≤ j3 then
                  if j3 < (↑(r0.set i2.toNat (r0.getD j3.toNat 0)).length : Int) then
                    some
                      (Sum.inl
                        (((), IntKind.i64.wrap (i2 + 1), IntKind.i64.wrap (j3 - 1), ()),
                          (r0.set i2.toNat (r0.getD j3.toNat 0)).set j3.toNat (r0.getD i2.toNat 0), ()))
                  else none
                else none
              else none
            else none
          else none
        else none
      else none
    else none
  else some (Sum.inr (((), ()), r0, ())) : Option (sh65_1.den ⊕ denX w65_1)) := by kernel_rfl
theorem F65_eq (g65_1 : sh65_1.den → Option (denX w65_1)) (r0 : List Int) : F65 g65_1 (((), ()), (r0, ())) = (
  (g65_1 (((), 0, IntKind.i64.wrap ((↑r0.length : Int) - 1), ()), r0, ())).bind fun y => some (((), ()), y.2.1, ()) : Option rs65.den) := by kernel_rfl
theorem F108_eq (s0 : List Int) : F108 (s0, ()) = (
  some ((((), ()), ()), (s0, ()), ()) : Option rs108.den) := by kernel_rfl
theorem S99_4_eq (e0 : Int) (e1 : Int) (b0_0 : Int) (b2_0 : Int) (r3 : List Int) : S99_4 (e0, e1) (((), (), (), ()), ((b0_0, ()), ((), ()), (b2_0, ()), r3, ())) = (
  if IntKind.u64.wrap b0_0 = 0 then none
  else
    if IntKind.u64.wrap b0_0 = 0 then none
    else
      if 0 ≤ e0 then
        if e0 < (↑r3.length : Int) then
          some
            (Sum.inl
              (((), (), (), ()), (b0_0, ()), ((), ()),
                ((bitop BinOp.or IntKind.u64 (IntKind.u64.wrap (b2_0 * 2 ^ 32)) (IntKind.u64.wrap e1)).tmod
                    (IntKind.u64.wrap b0_0),
                  ()),
                r3.set e0.toNat
                  (IntKind.u32.wrap
                    (IntKind.u64.wrap
                      ((bitop BinOp.or IntKind.u64 (IntKind.u64.wrap (b2_0 * 2 ^ 32)) (IntKind.u64.wrap e1)).tdiv
                        (IntKind.u64.wrap b0_0)))),
                ()))
        else none
      else none : Option (sh99_4.den ⊕ denX w99_4)) := by kernel_rfl
theorem F99_eq (F96 : (SV.denL ps96) → Option (rs96).den) (F108 : (SV.denL ps108) → Option (rs108).den) (D115 : Dt115) (g99_4 : List El115 → sh99_4.den → Option (sh99_4.den ⊕ denX w99_4)) (a0 : List Int) (d1 : Int) : F99 F96 F108 D115 g99_4 (a0, d1, ()) = (
  if (↑a0.length : Int) ≤ (↑a0.length : Int) then
    if (↑a0.length : Int) ≤ ((4294967296 : Nat) : Int) then
      (F108 (a0, ())).bind fun y =>
        (D115 (((), ()), ((y.2.1.1, ()), ()))).bind
          fun xs =>
          (g99_4 xs (((), (), (), ()), (d1, ()), ((), ()), (0, ()), List.replicate (↑a0.length : Int).toNat 0, ())).bind
            fun y =>
            Sum.elim
              (fun x' => (F96 (x'.2.2.2.2.1, ())).bind fun y => some ((y.1.1, IntKind.u32.wrap x'.2.2.2.1.1, ()), ()))
              (fun z => none) y
    else none
  else none : Option rs99.den) := by kernel_rfl
theorem B115_eq (z0 : List Int) : B115 (((), ()), ((z0, ()), ())) = (
  some (((), IntKind.i64.wrap ((↑z0.length : Int) - 1), ()), (z0, ()), ()) : Option head115.den) := by kernel_rfl
theorem Y115_eq (i3 : Int) (z0 : List Int) : Y115 (((), i3, ()), ((z0, ()), ())) = (
  if decide (i3 ≥ 0) = true then
    if 0 ≤ i3 then
      if i3 < (↑z0.length : Int) then
        some (RY.yl (i3, z0.getD i3.toNat 0) (((), IntKind.i64.wrap (i3 - 1), ()), (z0, ()), ()))
      else none
    else none
  else some RY.done : Option (RY head115.den El115)) := by kernel_rfl
theorem B98_eq (F99 : (SV.denL ps99) → Option (rs99).den) (z0 : List Int) (b1 : Int) : B98 F99 (((), (), ()), ((z0, ()), (b1, ()), ())) = (
  some (((), (), ()), (z0, ()), (b1, ()), ()) : Option psh98.den) := by kernel_rfl
theorem Y98_eq (F99 : (SV.denL ps99) → Option (rs99).den) (z0 : List Int) (b1 : Int) : Y98 F99 (((), (), ()), ((z0, ()), (b1, ()), ())) = (
  if decide ((↑z0.length : Int) > 0) = true then
    (F99 (z0, b1, ())).bind fun y => some (RY.yl y.1.2.1 (((), (), ()), (y.1.1, ()), (b1, ()), ()))
  else some RY.done : Option (RY psh98.den El98)) := by kernel_rfl
theorem S16_8_eq (e : Int) (b0_0 : Bool) (b0_1 : List Int) (r2 : List Int) : S16_8 e (((), (), ()), ((b0_0, b0_1, ()), ((), ()), r2, ())) = (
  if 0 ≤ e then
    if e < (↑36 : Int) then
      if
          r2.length +
              [(↑(tbE41_0.getD
                          e.toNat (0 : UInt8)).toNat :
                    Int)].length ≤
            4294967296 then
        some
          (Sum.inl
            (((), (), ()), (b0_0, b0_1, ()), ((), ()),
              r2 ++
                [(↑(tbE41_0.getD
                          e.toNat (0 : UInt8)).toNat :
                    Int)],
              ()))
      else none
    else none
  else none : Option (sh16_8.den ⊕ denX w16_8)) := by kernel_rfl
theorem F16_eq (F22 : (SV.denL ps22) → Option (rs22).den) (F52 : (SV.denL ps52) → Option (rs52).den) (F53 : (SV.denL ps53) → Option (rs53).den) (F54 : (SV.denL ps54) → Option (rs54).den) (F63 : (SV.denL ps63) → Option (rs63).den) (F64 : (SV.denL ps64) → Option (rs64).den) (F65 : (psh65.den) → Option (rs65).den) (D98 : Dt98) (g16_8 : List El98 → sh16_8.den → Option (sh16_8.den ⊕ denX w16_8)) (a0_0 : Bool) (a0_1 : List Int) (base1 : Int) : F16 F22 F52 F53 F54 F63 F64 F65 D98 g16_8 ((a0_0, a0_1), base1, ()) = (
  (F22 ((a0_0, a0_1), ())).bind fun y =>
    (F54 (base1, ())).bind fun y_1 =>
      (F53 (!y_1.1.1, 3, ())).bind fun y_2 =>
        (F52 ([y.1.1, y_2.1.1], ())).bind fun y =>
          if (!y.1.1 == 0) = true then some (([], y.1.1, ()), ())
          else
            if ((↑a0_1.length : Int) == 0) = true then some (([(48 : UInt8)], 0, ()), ())
            else
              (F63 ((a0_0, a0_1), ())).bind fun y =>
                (F64 (y.1.1, IntKind.u32.wrap base1, ())).bind fun y =>
                  (D98 (((), (), ()), ((y.2.1.1, ()), (y.2.2.1.1, ()), ()))).bind
                    fun xs =>
                    (g16_8 xs (((), (), ()), (a0_0, a0_1, ()), ((), ()), [], ())).bind fun y =>
                      Sum.elim
                        (fun x' =>
                          if x'.2.1.1 = true then
                            if List.length x'.2.2.2.1 + 1 ≤ 4294967296 then
                              (F65 (((), ()), x'.2.2.2.1 ++ [45], ())).bind fun z =>
                                some ((List.map (fun n => UInt8.ofNat n.toNat) z.2.1, 0, ()), ())
                            else none
                          else
                            (F65 (((), ()), x'.2.2.2.1, ())).bind fun z =>
                              some ((List.map (fun n => UInt8.ofNat n.toNat) z.2.1, 0, ()), ()))
                        (fun z => none) y : Option rs16.den) := by kernel_rfl
theorem F100_eq (F113 : (SV.denL ps113) → Option (rs113).den) (x0 : Int) : F100 F113 (x0, ()) = (
  (F113 (x0, ())).bind fun y => some ((IntKind.i64.wrap (32 - y.1.1), ()), ()) : Option rs100.den) := by kernel_rfl
theorem F69_eq (F100 : (SV.denL ps100) → Option (rs100).den) (a0 : List Int) : F69 F100 (a0, ()) = (
  if ((↑a0.length : Int) == 0) = true then some ((0, ()), ())
  else
    if 0 ≤ IntKind.i64.wrap ((↑a0.length : Int) - 1) then
      if IntKind.i64.wrap ((↑a0.length : Int) - 1) < (↑a0.length : Int) then
        (F100 (a0.getD (IntKind.i64.wrap ((↑a0.length : Int) - 1)).toNat 0, ())).bind fun y =>
          some ((IntKind.i64.wrap (IntKind.i64.wrap (32 * (↑a0.length : Int)) - y.1.1), ()), ())
      else none
    else none : Option rs69.den) := by kernel_rfl
theorem S19_6_eq (F68 : (SV.denL ps68) → Option (rs68).den) (ones6 : Int) (t16 : List Int) (t17 : Int) (t18 : Int) (b0_0 : Bool) (b0_1 : List Int) : S19_6 F68 (((), ones6, t16, t17, t18, ()), ((b0_0, b0_1, ()), ())) = (
  if decide (t18 < t17) = true then
    if 0 ≤ t18 then
      if t18 < (↑t16.length : Int) then
        (F68 (t16.getD t18.toNat 0, ())).bind fun y =>
          some
            (Sum.inl
              (((), IntKind.i64.wrap (ones6 + y.1.1), t16, t17, IntKind.i64.wrap (t18 + 1), ()), (b0_0, b0_1, ()), ()))
      else none
    else none
  else some (Sum.inr (((), ones6, ()), (b0_0, b0_1, ()), ())) : Option (sh19_6.den ⊕ denX w19_6)) := by kernel_rfl
theorem F19_eq (F22 : (SV.denL ps22) → Option (rs22).den) (F63 : (SV.denL ps63) → Option (rs63).den) (F69 : (SV.denL ps69) → Option (rs69).den) (g19_6 : sh19_6.den → Option (denX w19_6)) (a0_0 : Bool) (a0_1 : List Int) : F19 F22 F63 F69 g19_6 ((a0_0, a0_1), ()) = (
  (F22 ((a0_0, a0_1), ())).bind fun y =>
    if (!y.1.1 == 0) = true then some ((0, 0, y.1.1, ()), ())
    else
      (g19_6 (((), 0, a0_1, (↑a0_1.length : Int), 0, ()), (a0_0, a0_1, ()), ())).bind fun y =>
        (F63 ((y.2.1.1, y.2.1.2.1), ())).bind fun y_1 =>
          (F69 (y_1.1.1, ())).bind fun y_2 => some ((y_2.1.1, y.1.2.1, 0, ()), ()) : Option rs19.den) := by kernel_rfl
theorem F70_eq  : F70 () = (
  some (((1, 64, ()), ()), ()) : Option rs70.den) := by kernel_rfl
theorem F101_eq (l0_0 : Int) (l0_1 : Int) (n1 : Int) : F101 ((l0_0, l0_1, ()), n1, ()) = (
  if decide (n1 ≥ l0_0) = true then some ((decide (n1 ≤ l0_1), ()), ()) else some ((false, ()), ()) : Option rs101.den) := by kernel_rfl
theorem F21_eq (F22 : (SV.denL ps22) → Option (rs22).den) (F52 : (SV.denL ps52) → Option (rs52).den) (F53 : (SV.denL ps53) → Option (rs53).den) (F63 : (SV.denL ps63) → Option (rs63).den) (F70 : (SV.denL ps70) → Option (rs70).den) (F71 : (SV.denL ps71) → Option (rs71).den) (F101 : (SV.denL ps101) → Option (rs101).den) (a0_0 : Bool) (a0_1 : List Int) (width1 : Int) : F21 F22 F52 F53 F63 F70 F71 F101 ((a0_0, a0_1), width1, ()) = (
  (F22 ((a0_0, a0_1), ())).bind fun y =>
    (F70 ()).bind fun y_1 =>
      (F70 ()).bind fun y_2 =>
        (F101 ((y_2.1.1.1, y_2.1.1.2.1, ()), width1, ())).bind fun y_3 =>
          (F53 (!y_3.1.1, 3, ())).bind fun y_4 =>
            (F52 ([y.1.1, y_4.1.1], ())).bind fun y =>
              if (!y.1.1 == 0) = true then some ((0, y.1.1, ()), ())
              else
                (F63 ((a0_0, a0_1), ())).bind fun y =>
                  (F71 (y.1.1, 1, ())).bind fun y_5 =>
                    (F71 (y.1.1, 0, ())).bind fun y =>
                      if a0_0 = true then
                        if decide (width1 < 64) = true then
                          if width1 < 0 then none
                          else
                            some
                              ((bitop BinOp.and IntKind.u64
                                    (IntKind.u64.wrap
                                      (0 -
                                        bitop BinOp.or IntKind.u64 (IntKind.u64.wrap (IntKind.u64.wrap y_5.1.1 * 2 ^ 32))
                                          (IntKind.u64.wrap y.1.1)))
                                    (IntKind.u64.wrap (IntKind.u64.wrap (1 * 2 ^ min width1.toNat 64) - 1)),
                                  0, ()),
                                ())
                        else
                          some
                            ((IntKind.u64.wrap
                                  (0 -
                                    bitop BinOp.or IntKind.u64 (IntKind.u64.wrap (IntKind.u64.wrap y_5.1.1 * 2 ^ 32))
                                      (IntKind.u64.wrap y.1.1)),
                                0, ()),
                              ())
                      else
                        if decide (width1 < 64) = true then
                          if width1 < 0 then none
                          else
                            some
                              ((bitop BinOp.and IntKind.u64
                                    (bitop BinOp.or IntKind.u64 (IntKind.u64.wrap (IntKind.u64.wrap y_5.1.1 * 2 ^ 32))
                                      (IntKind.u64.wrap y.1.1))
                                    (IntKind.u64.wrap (IntKind.u64.wrap (1 * 2 ^ min width1.toNat 64) - 1)),
                                  0, ()),
                                ())
                        else
                          some
                            ((bitop BinOp.or IntKind.u64 (IntKind.u64.wrap (IntKind.u64.wrap y_5.1.1 * 2 ^ 32))
                                  (IntKind.u64.wrap y.1.1),
                                0, ()),
                              ()) : Option rs21.den) := by kernel_rfl
theorem F75_eq (a0_0 : Bool) (a0_1 : List Int) : F75 ((a0_0, a0_1), ()) = (
  if decide ((↑a0_1.length : Int) > 200) = true then some (((false, []), 4, ()), ()) else some (((a0_0, a0_1), 0, ()), ()) : Option rs75.den) := by kernel_rfl
theorem S76_6_eq (n1 : Int) (s6 : Int) (i7 : Int) (r0 : List Int) : S76_6 ((n1, (), s6, i7, ()), (r0, ())) = (
  if decide (i7 ≥ IntKind.i64.wrap (n1.tdiv 32)) = true then
    if decide (i7 > IntKind.i64.wrap (n1.tdiv 32)) = true then
      if 0 ≤ IntKind.i64.wrap (i7 - 1) then
        if IntKind.i64.wrap (i7 - 1) < (↑r0.length : Int) then
          if IntKind.i64.wrap (32 - s6) < 0 then none
          else
            if 0 ≤ i7 then
              if i7 < (↑r0.length : Int) then
                if s6 < 0 then none
                else
                  if 0 ≤ i7 then
                    if i7 < (↑r0.length : Int) then
                      some
                        (Sum.inl
                          ((n1, (), s6, IntKind.i64.wrap (i7 - 1), ()),
                            r0.set i7.toNat
                              (bitop BinOp.or IntKind.u32 (IntKind.u32.wrap (r0.getD i7.toNat 0 * 2 ^ min s6.toNat 32))
                                (Int.fdiv (r0.getD (IntKind.i64.wrap (i7 - 1)).toNat 0)
                                  (2 ^ min (IntKind.i64.wrap (32 - s6)).toNat 32))),
                            ()))
                    else none
                  else none
              else none
            else none
        else none
      else none
    else
      if 0 ≤ i7 then
        if i7 < (↑r0.length : Int) then
          if s6 < 0 then none
          else
            if 0 ≤ i7 then
              if i7 < (↑r0.length : Int) then
                some
                  (Sum.inl
                    ((n1, (), s6, IntKind.i64.wrap (i7 - 1), ()),
                      r0.set i7.toNat
                        (bitop BinOp.or IntKind.u32 (IntKind.u32.wrap (r0.getD i7.toNat 0 * 2 ^ min s6.toNat 32)) 0),
                      ()))
              else none
            else none
        else none
      else none
  else some (Sum.inr (((), ()), r0, ())) : Option (sh76_6.den ⊕ denX w76_6)) := by kernel_rfl
theorem F76_eq (F96 : (SV.denL ps96) → Option (rs96).den) (g76_6 : sh76_6.den → Option (denX w76_6)) (a0 : List Int) (n1 : Int) : F76 F96 g76_6 (a0, n1, ()) = (
  if 0 ≤ IntKind.i64.wrap (IntKind.i64.wrap ((↑a0.length : Int) + IntKind.i64.wrap (n1.tdiv 32)) + 1) then
    if
        IntKind.i64.wrap (IntKind.i64.wrap ((↑a0.length : Int) + IntKind.i64.wrap (n1.tdiv 32)) + 1) ≤
          IntKind.i64.wrap (IntKind.i64.wrap ((↑a0.length : Int) + IntKind.i64.wrap (n1.tdiv 32)) + 1) then
      if
          IntKind.i64.wrap (IntKind.i64.wrap ((↑a0.length : Int) + IntKind.i64.wrap (n1.tdiv 32)) + 1) ≤
            ((4294967296 : Nat) : Int) then
        if 0 ≤ IntKind.i64.wrap (n1.tdiv 32) then
          if
              IntKind.i64.wrap (n1.tdiv 32) ≤
                (↑(List.replicate
                        (IntKind.i64.wrap
                            (IntKind.i64.wrap ((↑a0.length : Int) + IntKind.i64.wrap (n1.tdiv 32)) + 1)).toNat
                        (0 : Int)).length :
                  Int) then
            if
                (↑(List.replicate
                          (IntKind.i64.wrap
                              (IntKind.i64.wrap ((↑a0.length : Int) + IntKind.i64.wrap (n1.tdiv 32)) + 1)).toNat
                          (0 : Int)).length :
                    Int) ≤
                  (↑(List.replicate
                          (IntKind.i64.wrap
                              (IntKind.i64.wrap ((↑a0.length : Int) + IntKind.i64.wrap (n1.tdiv 32)) + 1)).toNat
                          (0 : Int)).length :
                    Int) then
              if decide (n1.tmod 32 > 0) = true then
                (g76_6
                      ((n1, (), n1.tmod 32,
                          IntKind.i64.wrap
                            ((↑(List.take (IntKind.i64.wrap (n1.tdiv 32)).toNat
                                          (List.replicate
                                            (IntKind.i64.wrap
                                                (IntKind.i64.wrap ((↑a0.length : Int) + IntKind.i64.wrap (n1.tdiv 32)) +
                                                  1)).toNat
                                            0) ++
                                        List.take
                                          ((List.replicate
                                                (IntKind.i64.wrap
                                                    (IntKind.i64.wrap
                                                        ((↑a0.length : Int) + IntKind.i64.wrap (n1.tdiv 32)) +
                                                      1)).toNat
                                                (0 : Int)).length -
                                            (IntKind.i64.wrap (n1.tdiv 32)).toNat)
                                          a0 ++
                                      List.drop
                                        ((IntKind.i64.wrap (n1.tdiv 32)).toNat +
                                          min a0.length
                                            ((List.replicate
                                                  (IntKind.i64.wrap
                                                      (IntKind.i64.wrap
                                                          ((↑a0.length : Int) + IntKind.i64.wrap (n1.tdiv 32)) +
                                                        1)).toNat
                                                  (0 : Int)).length -
                                              (IntKind.i64.wrap (n1.tdiv 32)).toNat))
                                        (List.replicate
                                          (IntKind.i64.wrap
                                              (IntKind.i64.wrap ((↑a0.length : Int) + IntKind.i64.wrap (n1.tdiv 32)) +
                                                1)).toNat
                                          0)).length :
                                Int) -
                              1),
                          ()),
                        List.take (IntKind.i64.wrap (n1.tdiv 32)).toNat
                              (List.replicate
                                (IntKind.i64.wrap
                                    (IntKind.i64.wrap ((↑a0.length : Int) + IntKind.i64.wrap (n1.tdiv 32)) + 1)).toNat
                                0) ++
                            List.take
                              ((List.replicate
                                    (IntKind.i64.wrap
                                        (IntKind.i64.wrap ((↑a0.length : Int) + IntKind.i64.wrap (n1.tdiv 32)) + 1)).toNat
                                    (0 : Int)).length -
                                (IntKind.i64.wrap (n1.tdiv 32)).toNat)
                              a0 ++
                          List.drop
                            ((IntKind.i64.wrap (n1.tdiv 32)).toNat +
                              min a0.length
                                ((List.replicate
                                      (IntKind.i64.wrap
                                          (IntKind.i64.wrap ((↑a0.length : Int) + IntKind.i64.wrap (n1.tdiv 32)) +
                                            1)).toNat
                                      (0 : Int)).length -
                                  (IntKind.i64.wrap (n1.tdiv 32)).toNat))
                            (List.replicate
                              (IntKind.i64.wrap
                                  (IntKind.i64.wrap ((↑a0.length : Int) + IntKind.i64.wrap (n1.tdiv 32)) + 1)).toNat
                              0),
                        ())).bind
                  fun y => (F96 (y.2.1, ())).bind fun y => some ((y.1.1, ()), ())
              else
                (F96
                      (List.take (IntKind.i64.wrap (n1.tdiv 32)).toNat
                              (List.replicate
                                (IntKind.i64.wrap
                                    (IntKind.i64.wrap ((↑a0.length : Int) + IntKind.i64.wrap (n1.tdiv 32)) + 1)).toNat
                                0) ++
                            List.take
                              ((List.replicate
                                    (IntKind.i64.wrap
                                        (IntKind.i64.wrap ((↑a0.length : Int) + IntKind.i64.wrap (n1.tdiv 32)) + 1)).toNat
                                    (0 : Int)).length -
                                (IntKind.i64.wrap (n1.tdiv 32)).toNat)
                              a0 ++
                          List.drop
                            ((IntKind.i64.wrap (n1.tdiv 32)).toNat +
                              min a0.length
                                ((List.replicate
                                      (IntKind.i64.wrap
                                          (IntKind.i64.wrap ((↑a0.length : Int) + IntKind.i64.wrap (n1.tdiv 32)) +
                                            1)).toNat
                                      (0 : Int)).length -
                                  (IntKind.i64.wrap (n1.tdiv 32)).toNat))
                            (List.replicate
                              (IntKind.i64.wrap
                                  (IntKind.i64.wrap ((↑a0.length : Int) + IntKind.i64.wrap (n1.tdiv 32)) + 1)).toNat
                              0),
                        ())).bind
                  fun y => some ((y.1.1, ()), ())
            else none
          else none
        else none
      else none
    else none
  else none : Option rs76.den) := by kernel_rfl
theorem F104_eq (x0 : Int) : F104 (x0, ()) = (
  some ((!x0 == 0, ()), ()) : Option rs104.den) := by kernel_rfl
theorem S114_2_eq (F104 : (SV.denL ps104) → Option (rs104).den) (s0 : List Int) (t7 : Int) (t8 : Int) : S114_2 F104 ((s0, (), t7, t8, ()), ()) = (
  if decide (t8 < t7) = true then
    if 0 ≤ t8 then
      if t8 < (↑s0.length : Int) then
        (F104 (s0.getD t8.toNat 0, ())).bind fun y =>
          if y.1.1 = true then some (Sum.inr (Sum.inl ((t8, ()), ())))
          else some (Sum.inl ((s0, (), t7, IntKind.i64.wrap (t8 + 1), ()), ()))
      else none
    else none
  else some (Sum.inr (Sum.inr ((), ()))) : Option (sh114_2.den ⊕ denX w114_2)) := by kernel_rfl
theorem F114_eq (g114_2 : sh114_2.den → Option (denX w114_2)) (s0 : List Int) : F114 g114_2 (s0, (), ()) = (
  (g114_2 ((s0, (), (↑s0.length : Int), 0, ()), ())).bind fun y =>
    Sum.elim (fun y => some ((y.1.1, ()), ())) (fun z => some ((-1, ()), ())) y : Option rs114.den) := by kernel_rfl
theorem F103_eq (F114 : (SV.denL ps114) → Option (rs114).den) (s0 : List Int) : F103 F114 (s0, (), ()) = (
  (F114 (s0, (), ())).bind fun y => some ((decide (y.1.1 ≥ 0), ()), ()) : Option rs103.den) := by kernel_rfl
theorem S77_6_eq (F71 : (SV.denL ps71) → Option (rs71).den) (a0 : List Int) (n1 : Int) (lost6 : Bool) (t47 : Int) (t48 : Int) (r0 : List Int) : S77_6 F71 ((a0, n1, lost6, (), t47, t48, ()), (r0, ())) = (
  if decide (t48 < t47) = true then
    (F71 (a0, IntKind.i64.wrap (IntKind.i64.wrap (t48 + IntKind.i64.wrap (n1.tdiv 32)) + 1), ())).bind fun y =>
      if 0 ≤ IntKind.i64.wrap (t48 + IntKind.i64.wrap (n1.tdiv 32)) then
        if IntKind.i64.wrap (t48 + IntKind.i64.wrap (n1.tdiv 32)) < (↑a0.length : Int) then
          if n1.tmod 32 < 0 then none
          else
            if 0 ≤ t48 then
              if t48 < (↑r0.length : Int) then
                some
                  (Sum.inl
                    ((a0, n1, lost6, (), t47, IntKind.i64.wrap (t48 + 1), ()),
                      r0.set t48.toNat
                        (IntKind.u32.wrap
                          ((bitop BinOp.or IntKind.u64 (IntKind.u64.wrap (IntKind.u64.wrap y.1.1 * 2 ^ 32))
                                (IntKind.u64.wrap
                                  (a0.getD (IntKind.i64.wrap (t48 + IntKind.i64.wrap (n1.tdiv 32))).toNat 0))).fdiv
                            (2 ^ min (n1.tmod 32).toNat 64))),
                      ()))
              else none
            else none
        else none
      else none
  else some (Sum.inr ((lost6, (), ()), r0, ())) : Option (sh77_6.den ⊕ denX w77_6)) := by kernel_rfl
theorem F77_eq (F96 : (SV.denL ps96) → Option (rs96).den) (F103 : (SV.denL ps103) → Option (rs103).den) (g77_6 : sh77_6.den → Option (denX w77_6)) (a0 : List Int) (n1 : Int) : F77 F96 F103 g77_6 (a0, n1, ()) = (
  if decide (IntKind.i64.wrap (n1.tdiv 32) ≥ (↑a0.length : Int)) = true then
    some (([], decide ((↑a0.length : Int) > 0), ()), ())
  else
    if 0 ≤ IntKind.i64.wrap (n1.tdiv 32) then
      if IntKind.i64.wrap (n1.tdiv 32) ≤ (↑a0.length : Int) then
        (F103 (List.take (IntKind.i64.wrap (n1.tdiv 32)).toNat a0, (), ())).bind fun y =>
          if y.1.1 = true then
            if 0 ≤ IntKind.i64.wrap ((↑a0.length : Int) - IntKind.i64.wrap (n1.tdiv 32)) then
              if
                  IntKind.i64.wrap ((↑a0.length : Int) - IntKind.i64.wrap (n1.tdiv 32)) ≤
                    IntKind.i64.wrap ((↑a0.length : Int) - IntKind.i64.wrap (n1.tdiv 32)) then
                if IntKind.i64.wrap ((↑a0.length : Int) - IntKind.i64.wrap (n1.tdiv 32)) ≤ ((4294967296 : Nat) : Int) then
                  (g77_6
                        ((a0, n1, true, (),
                            (↑(List.replicate
                                    (IntKind.i64.wrap ((↑a0.length : Int) - IntKind.i64.wrap (n1.tdiv 32))).toNat
                                    (0 : Int)).length :
                              Int),
                            0, ()),
                          List.replicate (IntKind.i64.wrap ((↑a0.length : Int) - IntKind.i64.wrap (n1.tdiv 32))).toNat 0,
                          ())).bind
                    fun y => (F96 (y.2.1, ())).bind fun y_1 => some ((y_1.1.1, y.1.1, ()), ())
                else none
              else none
            else none
          else
            if 0 ≤ IntKind.i64.wrap (n1.tdiv 32) then
              if IntKind.i64.wrap (n1.tdiv 32) < (↑a0.length : Int) then
                if IntKind.i64.wrap (32 - n1.tmod 32) < 0 then none
                else
                  if
                      (!IntKind.u32.wrap
                              (IntKind.u32.wrap
                                  (a0.getD (IntKind.i64.wrap (n1.tdiv 32)).toNat 0 *
                                    2 ^ min (IntKind.i64.wrap (32 - n1.tmod 32)).toNat 32) *
                                2 ^ 0) ==
                            0) =
                        true then
                    if 0 ≤ IntKind.i64.wrap ((↑a0.length : Int) - IntKind.i64.wrap (n1.tdiv 32)) then
                      if
                          IntKind.i64.wrap ((↑a0.length : Int) - IntKind.i64.wrap (n1.tdiv 32)) ≤
                            IntKind.i64.wrap ((↑a0.length : Int) - IntKind.i64.wrap (n1.tdiv 32)) then
                        if
                            IntKind.i64.wrap ((↑a0.length : Int) - IntKind.i64.wrap (n1.tdiv 32)) ≤
                              ((4294967296 : Nat) : Int) then
                          (g77_6
                                ((a0, n1, decide (n1.tmod 32 > 0), (),
                                    (↑(List.replicate
                                            (IntKind.i64.wrap ((↑a0.length : Int) - IntKind.i64.wrap (n1.tdiv 32))).toNat
                                            (0 : Int)).length :
                                      Int),
                                    0, ()),
                                  List.replicate
                                    (IntKind.i64.wrap ((↑a0.length : Int) - IntKind.i64.wrap (n1.tdiv 32))).toNat 0,
                                  ())).bind
                            fun y => (F96 (y.2.1, ())).bind fun y_1 => some ((y_1.1.1, y.1.1, ()), ())
                        else none
                      else none
                    else none
                  else
                    if 0 ≤ IntKind.i64.wrap ((↑a0.length : Int) - IntKind.i64.wrap (n1.tdiv 32)) then
                      if
                          IntKind.i64.wrap ((↑a0.length : Int) - IntKind.i64.wrap (n1.tdiv 32)) ≤
                            IntKind.i64.wrap ((↑a0.length : Int) - IntKind.i64.wrap (n1.tdiv 32)) then
                        if
                            IntKind.i64.wrap ((↑a0.length : Int) - IntKind.i64.wrap (n1.tdiv 32)) ≤
                              ((4294967296 : Nat) : Int) then
                          (g77_6
                                ((a0, n1, false, (),
                                    (↑(List.replicate
                                            (IntKind.i64.wrap ((↑a0.length : Int) - IntKind.i64.wrap (n1.tdiv 32))).toNat
                                            (0 : Int)).length :
                                      Int),
                                    0, ()),
                                  List.replicate
                                    (IntKind.i64.wrap ((↑a0.length : Int) - IntKind.i64.wrap (n1.tdiv 32))).toNat 0,
                                  ())).bind
                            fun y => (F96 (y.2.1, ())).bind fun y_1 => some ((y_1.1.1, y.1.1, ()), ())
                        else none
                      else none
                    else none
              else none
            else none
      else none
    else none : Option rs77.den) := by kernel_rfl
theorem F25_eq (F22 : (SV.denL ps22) → Option (rs22).den) (F52 : (SV.denL ps52) → Option (rs52).den) (F53 : (SV.denL ps53) → Option (rs53).den) (F58 : (SV.denL ps58) → Option (rs58).den) (F59 : (SV.denL ps59) → Option (rs59).den) (F61 : (SV.denL ps61) → Option (rs61).den) (F63 : (SV.denL ps63) → Option (rs63).den) (F75 : (SV.denL ps75) → Option (rs75).den) (F76 : (SV.denL ps76) → Option (rs76).den) (F77 : (SV.denL ps77) → Option (rs77).den) (a0_0 : Bool) (a0_1 : List Int) (n1 : Int) : F25 F22 F52 F53 F58 F59 F61 F63 F75 F76 F77 ((a0_0, a0_1), n1, ()) = (
  (F22 ((a0_0, a0_1), ())).bind fun y =>
    if decide (n1 < -10000) = true then
      (F53 (true, 3, ())).bind fun y_1 =>
        (F52 ([y.1.1, y_1.1.1], ())).bind fun y =>
          if (!y.1.1 == 0) = true then some (((false, []), y.1.1, ()), ())
          else
            if decide (n1 ≥ 0) = true then
              (F63 ((a0_0, a0_1), ())).bind fun y =>
                (F76 (y.1.1, n1, ())).bind fun y =>
                  (F61 (a0_0, y.1.1, ())).bind fun y =>
                    (F75 ((y.1.1.1, y.1.1.2), ())).bind fun y => some (((y.1.1.1, y.1.1.2), y.1.2.1, ()), ())
            else
              (F63 ((a0_0, a0_1), ())).bind fun y =>
                (F77 (y.1.1, IntKind.i64.wrap (0 - n1), ())).bind fun y =>
                  if a0_0 = true then
                    if y.1.2.1 = true then
                      (F58 (1, ())).bind fun y_2 =>
                        (F59 (y.1.1, y_2.1.1, ())).bind fun y =>
                          (F61 (a0_0, y.1.1, ())).bind fun y =>
                            (F75 ((y.1.1.1, y.1.1.2), ())).bind fun y => some (((y.1.1.1, y.1.1.2), y.1.2.1, ()), ())
                    else
                      (F61 (a0_0, y.1.1, ())).bind fun y =>
                        (F75 ((y.1.1.1, y.1.1.2), ())).bind fun y => some (((y.1.1.1, y.1.1.2), y.1.2.1, ()), ())
                  else
                    (F61 (a0_0, y.1.1, ())).bind fun y =>
                      (F75 ((y.1.1.1, y.1.1.2), ())).bind fun y => some (((y.1.1.1, y.1.1.2), y.1.2.1, ()), ())
    else
      (F53 (decide (n1 > 10000), 3, ())).bind fun y_1 =>
        (F52 ([y.1.1, y_1.1.1], ())).bind fun y =>
          if (!y.1.1 == 0) = true then some (((false, []), y.1.1, ()), ())
          else
            if decide (n1 ≥ 0) = true then
              (F63 ((a0_0, a0_1), ())).bind fun y =>
                (F76 (y.1.1, n1, ())).bind fun y =>
                  (F61 (a0_0, y.1.1, ())).bind fun y =>
                    (F75 ((y.1.1.1, y.1.1.2), ())).bind fun y => some (((y.1.1.1, y.1.1.2), y.1.2.1, ()), ())
            else
              (F63 ((a0_0, a0_1), ())).bind fun y =>
                (F77 (y.1.1, IntKind.i64.wrap (0 - n1), ())).bind fun y =>
                  if a0_0 = true then
                    if y.1.2.1 = true then
                      (F58 (1, ())).bind fun y_2 =>
                        (F59 (y.1.1, y_2.1.1, ())).bind fun y =>
                          (F61 (a0_0, y.1.1, ())).bind fun y =>
                            (F75 ((y.1.1.1, y.1.1.2), ())).bind fun y => some (((y.1.1.1, y.1.1.2), y.1.2.1, ()), ())
                    else
                      (F61 (a0_0, y.1.1, ())).bind fun y =>
                        (F75 ((y.1.1.1, y.1.1.2), ())).bind fun y => some (((y.1.1.1, y.1.1.2), y.1.2.1, ()), ())
                  else
                    (F61 (a0_0, y.1.1, ())).bind fun y =>
                      (F75 ((y.1.1.1, y.1.1.2), ())).bind fun y => some (((y.1.1.1, y.1.1.2), y.1.2.1, ()), ()) : Option rs25.den) := by kernel_rfl
theorem S79_4_eq (e0 : Int) (e1 : Int) (b0_0 : List Int) (b1_0 : Int) : S79_4 (e0, e1) (((), (), ()), ((b0_0, ()), (b1_0, ()), ())) = (
  if 0 ≤ e0 then
    if e0 < (↑b0_0.length : Int) then
      if (!e1 == b0_0.getD e0.toNat 0) = true then
        if 0 ≤ e0 then
          if e0 < (↑b0_0.length : Int) then
            if decide (e1 < b0_0.getD e0.toNat 0) = true then some (Sum.inr (((), ()), (-1, ()), ()))
            else some (Sum.inr (((), ()), (1, ()), ()))
          else none
        else none
      else some (Sum.inl (((), (), ()), (b0_0, ()), (b1_0, ()), ()))
    else none
  else none : Option (sh79_4.den ⊕ denX w79_4)) := by kernel_rfl
theorem F79_eq (F108 : (SV.denL ps108) → Option (rs108).den) (D115 : Dt115) (g79_4 : List El115 → sh79_4.den → Option (sh79_4.den ⊕ denX w79_4)) (a0 : List Int) (b1 : List Int) : F79 F108 D115 g79_4 (a0, b1, ()) = (
  if (!(↑a0.length : Int) == (↑b1.length : Int)) = true then
    some ((IntKind.i64.wrap ((↑a0.length : Int) - (↑b1.length : Int)), ()), ())
  else
    (F108 (a0, ())).bind fun y =>
      (D115 (((), ()), ((y.2.1.1, ()), ()))).bind
        fun xs =>
        (g79_4 xs (((), (), ()), (b1, ()), (0, ()), ())).bind fun y =>
          Sum.elim (fun x' => some ((0, ()), ())) (fun z => some ((z.2.1.1, ()), ())) y : Option rs79.den) := by kernel_rfl
theorem F105_eq (s0 : List Int) : F105 (s0, ()) = (
  if 0 < s0.length then if 0 + s0.length ≤ 4294967296 then some (((), ()), s0, ()) else none
  else meet (some (((), ()), [], ())) (if 0 + s0.length ≤ 4294967296 then some (((), ()), s0, ()) else none) : Option rs105.den) := by kernel_rfl
theorem F106_eq (x0 : Int) (y1 : Int) (borrow2 : Int) : F106 (x0, y1, borrow2, ()) = (
  some
    ((IntKind.u32.wrap (IntKind.u32.wrap (x0 - y1) - borrow2),
        (bitop BinOp.or IntKind.u32 (bitop BinOp.and IntKind.u32 (bitop BinOp.xor IntKind.u32 4294967295 x0) y1)
              (bitop BinOp.and IntKind.u32 (bitop BinOp.xor IntKind.u32 4294967295 (bitop BinOp.xor IntKind.u32 x0 y1))
                (IntKind.u32.wrap (IntKind.u32.wrap (x0 - y1) - borrow2)))).fdiv
          (2 ^ 31),
        ()),
      ()) : Option rs106.den) := by kernel_rfl
theorem F107_eq (x0 : Int) (y1 : Int) (carry2 : Int) : F107 (x0, y1, carry2, ()) = (
  some
    ((IntKind.u32.wrap
          (IntKind.u64.wrap (IntKind.u64.wrap (IntKind.u64.wrap x0 + IntKind.u64.wrap y1) + IntKind.u64.wrap carry2)),
        IntKind.u32.wrap
          ((IntKind.u64.wrap
                (IntKind.u64.wrap (IntKind.u64.wrap x0 + IntKind.u64.wrap y1) + IntKind.u64.wrap carry2)).fdiv
            (2 ^ 32)),
        ()),
      ()) : Option rs107.den) := by kernel_rfl
theorem S78_9_eq (a0 : List Int) (shift8 : Int) (v9 : List Int) (r0 : List Int) : S78_9 ((a0, shift8, v9, (), ()), (r0, ())) = (
  if decide ((↑r0.length : Int) ≤ (↑a0.length : Int)) = true then
    if r0.length + 1 ≤ 4294967296 then some (Sum.inl ((a0, shift8, v9, (), ()), r0 ++ [0], ())) else none
  else some (Sum.inr ((shift8, v9, (), ()), r0, ())) : Option (sh78_9.den ⊕ denX w78_9)) := by kernel_rfl
theorem S78_18_eq (shift8 : Int) (v9 : List Int) (n11 : Int) (j13 : Int) (guess15 : Int) (rest16 : Int) (r0 : List Int) (r1 : List Int) : S78_18 ((shift8, v9, (), n11, (), j13, guess15, rest16, ()), (r0, r1, ())) = (
  if decide (guess15 ≥ 4294967296) = true then
    if 0 ≤ IntKind.i64.wrap (n11 - 1) then
      if IntKind.i64.wrap (n11 - 1) < (↑v9.length : Int) then
        if
            decide
                (IntKind.u64.wrap (rest16 + IntKind.u64.wrap (v9.getD (IntKind.i64.wrap (n11 - 1)).toNat 0)) ≥
                  4294967296) =
              true then
          some (Sum.inr ((shift8, v9, (), n11, (), j13, IntKind.u64.wrap (guess15 - 1), ()), r0, r1, ()))
        else
          some
            (Sum.inl
              ((shift8, v9, (), n11, (), j13, IntKind.u64.wrap (guess15 - 1),
                  IntKind.u64.wrap (rest16 + IntKind.u64.wrap (v9.getD (IntKind.i64.wrap (n11 - 1)).toNat 0)), ()),
                r0, r1, ()))
      else none
    else none
  else
    if 0 ≤ IntKind.i64.wrap (n11 - 2) then
      if IntKind.i64.wrap (n11 - 2) < (↑v9.length : Int) then
        if 0 ≤ IntKind.i64.wrap (IntKind.i64.wrap (j13 + n11) - 2) then
          if IntKind.i64.wrap (IntKind.i64.wrap (j13 + n11) - 2) < (↑r0.length : Int) then
            if
                decide
                    (IntKind.u64.wrap (guess15 * IntKind.u64.wrap (v9.getD (IntKind.i64.wrap (n11 - 2)).toNat 0)) >
                      bitop BinOp.or IntKind.u64 (IntKind.u64.wrap (rest16 * 2 ^ 32))
                        (IntKind.u64.wrap (r0.getD (IntKind.i64.wrap (IntKind.i64.wrap (j13 + n11) - 2)).toNat 0))) =
                  true then
              if 0 ≤ IntKind.i64.wrap (n11 - 1) then
                if IntKind.i64.wrap (n11 - 1) < (↑v9.length : Int) then
                  if
                      decide
                          (IntKind.u64.wrap (rest16 + IntKind.u64.wrap (v9.getD (IntKind.i64.wrap (n11 - 1)).toNat 0)) ≥
                            4294967296) =
                        true then
                    some (Sum.inr ((shift8, v9, (), n11, (), j13, IntKind.u64.wrap (guess15 - 1), ()), r0, r1, ()))
                  else
                    some
                      (Sum.inl
                        ((shift8, v9, (), n11, (), j13, IntKind.u64.wrap (guess15 - 1),
                            IntKind.u64.wrap (rest16 + IntKind.u64.wrap (v9.getD (IntKind.i64.wrap (n11 - 1)).toNat 0)),
                            ()),
                          r0, r1, ()))
                else none
              else none
            else some (Sum.inr ((shift8, v9, (), n11, (), j13, guess15, ()), r0, r1, ()))
          else none
        else none
      else none
    else none : Option (sh78_18.den ⊕ denX w78_18)) := by kernel_rfl
theorem S78_24_eq (F106 : (SV.denL ps106) → Option (rs106).den) (shift8 : Int) (v9 : List Int) (n11 : Int) (j13 : Int) (guess15 : Int) (carry17 : Int) (borrow18 : Int) (t158 : List Int) (t159 : Int) (t160 : Int) (r0 : List Int) (r1 : List Int) : S78_24 F106 ((shift8, v9, (), n11, (), j13, guess15, carry17, borrow18, t158, t159, t160, ()), (r0, r1, ())) = (
  if decide (t160 < t159) = true then
    if 0 ≤ t160 then
      if t160 < (↑t158.length : Int) then
        if 0 ≤ IntKind.i64.wrap (t160 + j13) then
          if IntKind.i64.wrap (t160 + j13) < (↑r0.length : Int) then
            (F106
                  (r0.getD (IntKind.i64.wrap (t160 + j13)).toNat 0,
                    IntKind.u32.wrap
                      (IntKind.u64.wrap
                        (IntKind.u64.wrap (guess15 * IntKind.u64.wrap (t158.getD t160.toNat 0)) + carry17)),
                    borrow18, ())).bind
              fun y =>
              if 0 ≤ IntKind.i64.wrap (t160 + j13) then
                if IntKind.i64.wrap (t160 + j13) < (↑r0.length : Int) then
                  some
                    (Sum.inl
                      ((shift8, v9, (), n11, (), j13, guess15,
                          (IntKind.u64.wrap
                                (IntKind.u64.wrap (guess15 * IntKind.u64.wrap (t158.getD t160.toNat 0)) + carry17)).fdiv
                            (2 ^ 32),
                          y.1.2.1, t158, t159, IntKind.i64.wrap (t160 + 1), ()),
                        r0.set (IntKind.i64.wrap (t160 + j13)).toNat y.1.1, r1, ()))
                else none
              else none
          else none
        else none
      else none
    else none
  else some (Sum.inr ((shift8, v9, (), n11, (), j13, guess15, carry17, borrow18, ()), r0, r1, ())) : Option (sh78_24.den ⊕ denX w78_24)) := by kernel_rfl
theorem S78_35_eq (F107 : (SV.denL ps107) → Option (rs107).den) (shift8 : Int) (v9 : List Int) (n11 : Int) (j13 : Int) (guess15 : Int) (over22 : Int) (t214 : List Int) (t215 : Int) (t216 : Int) (r0 : List Int) (r1 : List Int) : S78_35 F107 ((shift8, v9, (), n11, (), j13, guess15, over22, t214, t215, t216, ()), (r0, r1, ())) = (
  if decide (t216 < t215) = true then
    if 0 ≤ t216 then
      if t216 < (↑t214.length : Int) then
        if 0 ≤ IntKind.i64.wrap (t216 + j13) then
          if IntKind.i64.wrap (t216 + j13) < (↑r0.length : Int) then
            (F107 (r0.getD (IntKind.i64.wrap (t216 + j13)).toNat 0, t214.getD t216.toNat 0, over22, ())).bind fun y =>
              if 0 ≤ IntKind.i64.wrap (t216 + j13) then
                if IntKind.i64.wrap (t216 + j13) < (↑r0.length : Int) then
                  some
                    (Sum.inl
                      ((shift8, v9, (), n11, (), j13, guess15, y.1.2.1, t214, t215, IntKind.i64.wrap (t216 + 1), ()),
                        r0.set (IntKind.i64.wrap (t216 + j13)).toNat y.1.1, r1, ()))
                else none
              else none
          else none
        else none
      else none
    else none
  else some (Sum.inr ((shift8, v9, (), n11, (), j13, guess15, over22, ()), r0, r1, ())) : Option (sh78_35.den ⊕ denX w78_35)) := by kernel_rfl
theorem S78_14_eq (F106 : (SV.denL ps106) → Option (rs106).den) (g78_18 : sh78_18.den → Option (denX w78_18)) (g78_24 : sh78_24.den → Option (denX w78_24)) (g78_35 : sh78_35.den → Option (denX w78_35)) (shift8 : Int) (v9 : List Int) (n11 : Int) (j13 : Int) (r0 : List Int) (r1 : List Int) : S78_14 F106 g78_18 g78_24 g78_35 ((shift8, v9, (), n11, (), j13, ()), (r0, r1, ())) = (
  if decide (j13 ≥ 0) = true then
    if 0 ≤ IntKind.i64.wrap (j13 + n11) then
      if IntKind.i64.wrap (j13 + n11) < (↑r0.length : Int) then
        if 0 ≤ IntKind.i64.wrap (IntKind.i64.wrap (j13 + n11) - 1) then
          if IntKind.i64.wrap (IntKind.i64.wrap (j13 + n11) - 1) < (↑r0.length : Int) then
            if 0 ≤ IntKind.i64.wrap (n11 - 1) then
              if IntKind.i64.wrap (n11 - 1) < (↑v9.length : Int) then
                if IntKind.u64.wrap (v9.getD (IntKind.i64.wrap (n11 - 1)).toNat 0) = 0 then none
                else
                  if 0 ≤ IntKind.i64.wrap (n11 - 1) then
                    if IntKind.i64.wrap (n11 - 1) < (↑v9.length : Int) then
                      if IntKind.u64.wrap (v9.getD (IntKind.i64.wrap (n11 - 1)).toNat 0) = 0 then none
                      else
                        (g78_18
                              ((shift8, v9, (), n11, (), j13,
                                  IntKind.u64.wrap
                                    ((bitop BinOp.or IntKind.u64
                                          (IntKind.u64.wrap
                                            (IntKind.u64.wrap (r0.getD (IntKind.i64.wrap (j13 + n11)).toNat 0) * 2 ^ 32))
                                          (IntKind.u64.wrap
                                            (r0.getD (IntKind.i64.wrap (IntKind.i64.wrap (j13 + n11) - 1)).toNat 0))).tdiv
                                      (IntKind.u64.wrap (v9.getD (IntKind.i64.wrap (n11 - 1)).toNat 0))),
                                  (bitop BinOp.or IntKind.u64
                                        (IntKind.u64.wrap
                                          (IntKind.u64.wrap (r0.getD (IntKind.i64.wrap (j13 + n11)).toNat 0) * 2 ^ 32))
                                        (IntKind.u64.wrap
                                          (r0.getD (IntKind.i64.wrap (IntKind.i64.wrap (j13 + n11) - 1)).toNat 0))).tmod
                                    (IntKind.u64.wrap (v9.getD (IntKind.i64.wrap (n11 - 1)).toNat 0)),
                                  ()),
                                r0, r1, ())).bind
                          fun y =>
                          (g78_24
                                ((y.1.1, y.1.2.1, (), y.1.2.2.2.1, (), y.1.2.2.2.2.2.1, y.1.2.2.2.2.2.2.1, 0, 0, y.1.2.1,
                                    (↑(List.length y.1.2.1) : Int), 0, ()),
                                  y.2.1, y.2.2.1, ())).bind
                            fun y =>
                            if 0 ≤ IntKind.i64.wrap (y.1.2.2.2.2.2.1 + y.1.2.2.2.1) then
                              if IntKind.i64.wrap (y.1.2.2.2.2.2.1 + y.1.2.2.2.1) < (↑(List.length y.2.1) : Int) then
                                (F106
                                      (List.getD y.2.1 (IntKind.i64.wrap (y.1.2.2.2.2.2.1 + y.1.2.2.2.1)).toNat 0,
                                        IntKind.u32.wrap y.1.2.2.2.2.2.2.2.1, y.1.2.2.2.2.2.2.2.2.1, ())).bind
                                  fun y_1 =>
                                  if 0 ≤ IntKind.i64.wrap (y.1.2.2.2.2.2.1 + y.1.2.2.2.1) then
                                    if
                                        IntKind.i64.wrap (y.1.2.2.2.2.2.1 + y.1.2.2.2.1) <
                                          (↑(List.length y.2.1) : Int) then
                                      if (!y_1.1.2.1 == 0) = true then
                                        (g78_35
                                              ((y.1.1, y.1.2.1, (), y.1.2.2.2.1, (), y.1.2.2.2.2.2.1,
                                                  IntKind.u64.wrap (y.1.2.2.2.2.2.2.1 - 1), 0, y.1.2.1,
                                                  (↑(List.length y.1.2.1) : Int), 0, ()),
                                                List.set y.2.1 (IntKind.i64.wrap (y.1.2.2.2.2.2.1 + y.1.2.2.2.1)).toNat
                                                  y_1.1.1,
                                                y.2.2.1, ())).bind
                                          fun y =>
                                          if 0 ≤ IntKind.i64.wrap (y.1.2.2.2.2.2.1 + y.1.2.2.2.1) then
                                            if
                                                IntKind.i64.wrap (y.1.2.2.2.2.2.1 + y.1.2.2.2.1) <
                                                  (↑(List.length y.2.1) : Int) then
                                              if 0 ≤ IntKind.i64.wrap (y.1.2.2.2.2.2.1 + y.1.2.2.2.1) then
                                                if
                                                    IntKind.i64.wrap (y.1.2.2.2.2.2.1 + y.1.2.2.2.1) <
                                                      (↑(List.length y.2.1) : Int) then
                                                  if 0 ≤ y.1.2.2.2.2.2.1 then
                                                    if y.1.2.2.2.2.2.1 < (↑(List.length y.2.2.1) : Int) then
                                                      some
                                                        (Sum.inl
                                                          ((y.1.1, y.1.2.1, (), y.1.2.2.2.1, (),
                                                              IntKind.i64.wrap (y.1.2.2.2.2.2.1 - 1), ()),
                                                            List.set y.2.1
                                                              (IntKind.i64.wrap (y.1.2.2.2.2.2.1 + y.1.2.2.2.1)).toNat
                                                              (IntKind.u32.wrap
                                                                (List.getD y.2.1
                                                                    (IntKind.i64.wrap
                                                                        (y.1.2.2.2.2.2.1 + y.1.2.2.2.1)).toNat
                                                                    0 +
                                                                  y.1.2.2.2.2.2.2.2.1)),
                                                            List.set y.2.2.1 (Int.toNat y.1.2.2.2.2.2.1)
                                                              (IntKind.u32.wrap y.1.2.2.2.2.2.2.1),
                                                            ()))
                                                    else none
                                                  else none
                                                else none
                                              else none
                                            else none
                                          else none
                                      else
                                        if 0 ≤ y.1.2.2.2.2.2.1 then
                                          if y.1.2.2.2.2.2.1 < (↑(List.length y.2.2.1) : Int) then
                                            some
                                              (Sum.inl
                                                ((y.1.1, y.1.2.1, (), y.1.2.2.2.1, (),
                                                    IntKind.i64.wrap (y.1.2.2.2.2.2.1 - 1), ()),
                                                  List.set y.2.1 (IntKind.i64.wrap (y.1.2.2.2.2.2.1 + y.1.2.2.2.1)).toNat
                                                    y_1.1.1,
                                                  List.set y.2.2.1 (Int.toNat y.1.2.2.2.2.2.1)
                                                    (IntKind.u32.wrap y.1.2.2.2.2.2.2.1),
                                                  ()))
                                          else none
                                        else none
                                    else none
                                  else none
                              else none
                            else none
                    else none
                  else none
              else none
            else none
          else none
        else none
      else none
    else none
  else some (Sum.inr ((shift8, (), (), ()), r0, r1, ())) : Option (sh78_14.den ⊕ denX w78_14)) := by kernel_rfl
theorem F78_eq (F58 : (SV.denL ps58) → Option (rs58).den) (F76 : (SV.denL ps76) → Option (rs76).den) (F77 : (SV.denL ps77) → Option (rs77).den) (F79 : (SV.denL ps79) → Option (rs79).den) (F96 : (SV.denL ps96) → Option (rs96).den) (F99 : (SV.denL ps99) → Option (rs99).den) (F100 : (SV.denL ps100) → Option (rs100).den) (F105 : (SV.denL ps105) → Option (rs105).den) (g78_9 : sh78_9.den → Option (denX w78_9)) (g78_14 : sh78_14.den → Option (denX w78_14)) (a0 : List Int) (b1 : List Int) : F78 F58 F76 F77 F79 F96 F99 F100 F105 g78_9 g78_14 (a0, b1, ()) = (
  (F79 (a0, b1, ())).bind fun y =>
    if decide (y.1.1 < 0) = true then (F105 (a0, ())).bind fun y => some (([], y.2.1, ()), ())
    else
      if ((↑b1.length : Int) == 1) = true then
        if 0 < (↑b1.length : Int) then
          (F99 (a0, b1.getD 0 0, ())).bind fun y => (F58 (y.1.2.1, ())).bind fun y_1 => some ((y.1.1, y_1.1.1, ()), ())
        else none
      else
        if 0 ≤ IntKind.i64.wrap ((↑b1.length : Int) - 1) then
          if IntKind.i64.wrap ((↑b1.length : Int) - 1) < (↑b1.length : Int) then
            (F100 (b1.getD (IntKind.i64.wrap ((↑b1.length : Int) - 1)).toNat 0, ())).bind fun y =>
              (F76 (b1, y.1.1, ())).bind fun y_1 =>
                (F76 (a0, y.1.1, ())).bind fun y_2 =>
                  (F105 (y_2.1.1, ())).bind fun y_3 =>
                    if List.length y_3.2.1 + 1 ≤ 4294967296 then
                      (g78_9 ((a0, y.1.1, y_1.1.1, (), ()), y_3.2.1 ++ [0], ())).bind fun y =>
                        if 0 ≤ IntKind.i64.wrap ((↑(List.length y.2.1) : Int) - (↑(List.length y.1.2.1) : Int)) then
                          if
                              IntKind.i64.wrap ((↑(List.length y.2.1) : Int) - (↑(List.length y.1.2.1) : Int)) ≤
                                IntKind.i64.wrap ((↑(List.length y.2.1) : Int) - (↑(List.length y.1.2.1) : Int)) then
                            if
                                IntKind.i64.wrap ((↑(List.length y.2.1) : Int) - (↑(List.length y.1.2.1) : Int)) ≤
                                  ((4294967296 : Nat) : Int) then
                              (g78_14
                                    ((y.1.1, y.1.2.1, (), (↑(List.length y.1.2.1) : Int), (),
                                        IntKind.i64.wrap
                                          (IntKind.i64.wrap
                                              ((↑(List.length y.2.1) : Int) - (↑(List.length y.1.2.1) : Int)) -
                                            1),
                                        ()),
                                      y.2.1,
                                      List.replicate
                                        (IntKind.i64.wrap
                                            ((↑(List.length y.2.1) : Int) - (↑(List.length y.1.2.1) : Int))).toNat
                                        0,
                                      ())).bind
                                fun y =>
                                (F96 (y.2.1, ())).bind fun y_4 =>
                                  (F77 (y_4.1.1, y.1.1, ())).bind fun y_5 =>
                                    (F96 (y.2.2.1, ())).bind fun y => some ((y.1.1, y_5.1.1, ()), ())
                            else none
                          else none
                        else none
                    else none
          else none
        else none : Option rs78.den) := by kernel_rfl
theorem S27_8_eq (F59 : (SV.denL ps59) → Option (rs59).den) (F61 : (SV.denL ps61) → Option (rs61).den) (F77 : (SV.denL ps77) → Option (rs77).den) (F78 : (SV.denL ps78) → Option (rs78).den) (F79 : (SV.denL ps79) → Option (rs79).den) (n5 : List Int) (x6 : List Int) (b0_0 : Bool) (b0_1 : List Int) : S27_8 F59 F61 F77 F78 F79 (((), n5, x6, ()), ((b0_0, b0_1, ()), ())) = (
  (F78 (n5, x6, ())).bind fun y =>
    (F59 (x6, y.1.1, ())).bind fun y =>
      (F77 (y.1.1, 1, ())).bind fun y =>
        (F79 (y.1.1, x6, ())).bind fun y_1 =>
          if decide (y_1.1.1 ≥ 0) = true then
            (F61 (false, x6, ())).bind fun y => some (Sum.inr (((), 0, ()), (y.1.1.1, y.1.1.2, ()), ()))
          else some (Sum.inl (((), n5, y.1.1, ()), (b0_0, b0_1, ()), ())) : Option (sh27_8.den ⊕ denX w27_8)) := by kernel_rfl
theorem F27_eq (F22 : (SV.denL ps22) → Option (rs22).den) (F52 : (SV.denL ps52) → Option (rs52).den) (F53 : (SV.denL ps53) → Option (rs53).den) (F58 : (SV.denL ps58) → Option (rs58).den) (F63 : (SV.denL ps63) → Option (rs63).den) (F69 : (SV.denL ps69) → Option (rs69).den) (F76 : (SV.denL ps76) → Option (rs76).den) (g27_8 : sh27_8.den → Option (denX w27_8)) (a0_0 : Bool) (a0_1 : List Int) : F27 F22 F52 F53 F58 F63 F69 F76 g27_8 ((a0_0, a0_1), ()) = (
  (F22 ((a0_0, a0_1), ())).bind fun y =>
    (F53 (a0_0, 3, ())).bind fun y_1 =>
      (F52 ([y.1.1, y_1.1.1], ())).bind fun y =>
        if (!y.1.1 == 0) = true then some (((false, []), y.1.1, ()), ())
        else
          (F63 ((a0_0, a0_1), ())).bind fun y =>
            if ((↑(List.length y.1.1) : Int) == 0) = true then some (((false, []), 0, ()), ())
            else
              (F58 (1, ())).bind fun y_2 =>
                (F69 (y.1.1, ())).bind fun y_3 =>
                  (F76 (y_2.1.1, IntKind.i64.wrap ((IntKind.i64.wrap (y_3.1.1 + 1)).tdiv 2), ())).bind fun y_4 =>
                    (g27_8 (((), y.1.1, y_4.1.1, ()), (false, [], ()), ())).bind fun y =>
                      some (((y.2.1.1, y.2.1.2.1), y.1.2.1, ()), ()) : Option rs27.den) := by kernel_rfl
theorem S109_3_eq (F22 : (SV.denL ps22) → Option (rs22).den) (t8 : List (Bool × List Int)) (t9 : Int) (t10 : Int) (r0 : List Int) : S109_3 F22 (((), (), t8, t9, t10, ()), (r0, ())) = (
  if decide (t10 < t9) = true then
    if 0 ≤ t10 then
      if t10 < (↑t8.length : Int) then
        (F22 (((t8.getD t10.toNat (false, [])).1, (t8.getD t10.toNat (false, [])).2), ())).bind fun y =>
          if r0.length + [y.1.1].length ≤ 4294967296 then
            some (Sum.inl (((), (), t8, t9, IntKind.i64.wrap (t10 + 1), ()), r0 ++ [y.1.1], ()))
          else none
      else none
    else none
  else some (Sum.inr (((), ()), r0, ())) : Option (sh109_3.den ⊕ denX w109_3)) := by kernel_rfl
theorem F109_eq (g109_3 : sh109_3.den → Option (denX w109_3)) (l0 : List (Bool × List Int)) : F109 g109_3 (l0, (), ()) = (
  (g109_3 (((), (), l0, (↑l0.length : Int), 0, ()), [], ())).bind fun y => some ((y.2.1, ()), ()) : Option rs109.den) := by kernel_rfl
theorem F85_eq (F52 : (SV.denL ps52) → Option (rs52).den) (F109 : (SV.denL ps109) → Option (rs109).den) (l0 : List (Bool × List Int)) : F85 F52 F109 (l0, ()) = (
  (F109 (l0, (), ())).bind fun y => (F52 (y.1.1, ())).bind fun y => some ((y.1.1, ()), ()) : Option rs85.den) := by kernel_rfl
theorem S110_4_eq (F71 : (SV.denL ps71) → Option (rs71).den) (F106 : (SV.denL ps106) → Option (rs106).den) (a0 : List Int) (b1 : List Int) (borrow6 : Int) (t12 : Int) (t13 : Int) (r0 : List Int) : S110_4 F71 F106 ((a0, b1, (), borrow6, t12, t13, ()), (r0, ())) = (
  if decide (t13 < t12) = true then
    if 0 ≤ t13 then
      if t13 < (↑a0.length : Int) then
        (F71 (b1, t13, ())).bind fun y =>
          (F106 (a0.getD t13.toNat 0, y.1.1, borrow6, ())).bind fun y =>
            if 0 ≤ t13 then
              if t13 < (↑r0.length : Int) then
                some (Sum.inl ((a0, b1, (), y.1.2.1, t12, IntKind.i64.wrap (t13 + 1), ()), r0.set t13.toNat y.1.1, ()))
              else none
            else none
      else none
    else none
  else some (Sum.inr (((), ()), r0, ())) : Option (sh110_4.den ⊕ denX w110_4)) := by kernel_rfl
theorem F110_eq (F96 : (SV.denL ps96) → Option (rs96).den) (g110_4 : sh110_4.den → Option (denX w110_4)) (a0 : List Int) (b1 : List Int) : F110 F96 g110_4 (a0, b1, ()) = (
  if (↑a0.length : Int) ≤ (↑a0.length : Int) then
    if (↑a0.length : Int) ≤ ((4294967296 : Nat) : Int) then
      (g110_4
            ((a0, b1, (), 0, (↑(List.replicate (↑a0.length : Int).toNat (0 : Int)).length : Int), 0, ()),
              List.replicate (↑a0.length : Int).toNat 0, ())).bind
        fun y => (F96 (y.2.1, ())).bind fun y => some ((y.1.1, ()), ())
    else none
  else none : Option rs110.den) := by kernel_rfl
theorem F87_eq (F59 : (SV.denL ps59) → Option (rs59).den) (F61 : (SV.denL ps61) → Option (rs61).den) (F63 : (SV.denL ps63) → Option (rs63).den) (F79 : (SV.denL ps79) → Option (rs79).den) (F110 : (SV.denL ps110) → Option (rs110).den) (a0_0 : Bool) (a0_1 : List Int) (b1_0 : Bool) (b1_1 : List Int) : F87 F59 F61 F63 F79 F110 ((a0_0, a0_1), (b1_0, b1_1), ()) = (
  (F63 ((a0_0, a0_1), ())).bind fun y =>
    (F63 ((b1_0, b1_1), ())).bind fun y_1 =>
      if (a0_0 == b1_0) = true then
        (F59 (y.1.1, y_1.1.1, ())).bind fun y => (F61 (a0_0, y.1.1, ())).bind fun y => some (((y.1.1.1, y.1.1.2), ()), ())
      else
        (F79 (y.1.1, y_1.1.1, ())).bind fun y_2 =>
          if decide (y_2.1.1 ≥ 0) = true then
            (F110 (y.1.1, y_1.1.1, ())).bind fun y =>
              (F61 (a0_0, y.1.1, ())).bind fun y => some (((y.1.1.1, y.1.1.2), ()), ())
          else
            (F110 (y_1.1.1, y.1.1, ())).bind fun y =>
              (F61 (b1_0, y.1.1, ())).bind fun y => some (((y.1.1.1, y.1.1.2), ()), ()) : Option rs87.den) := by kernel_rfl
theorem F88_eq (F61 : (SV.denL ps61) → Option (rs61).den) (F63 : (SV.denL ps63) → Option (rs63).den) (a0_0 : Bool) (a0_1 : List Int) : F88 F61 F63 ((a0_0, a0_1), ()) = (
  (F63 ((a0_0, a0_1), ())).bind fun y => (F61 (!a0_0, y.1.1, ())).bind fun y => some (((y.1.1.1, y.1.1.2), ()), ()) : Option rs88.den) := by kernel_rfl
theorem F89_eq (F57 : (SV.denL ps57) → Option (rs57).den) (F61 : (SV.denL ps61) → Option (rs61).den) (F63 : (SV.denL ps63) → Option (rs63).den) (a0_0 : Bool) (a0_1 : List Int) (b1_0 : Bool) (b1_1 : List Int) : F89 F57 F61 F63 ((a0_0, a0_1), (b1_0, b1_1), ()) = (
  (F63 ((a0_0, a0_1), ())).bind fun y =>
    (F63 ((b1_0, b1_1), ())).bind fun y_1 =>
      (F57 (y.1.1, y_1.1.1, ())).bind fun y =>
        (F61 (!a0_0 == b1_0, y.1.1, ())).bind fun y => some (((y.1.1.1, y.1.1.2), ()), ()) : Option rs89.den) := by kernel_rfl
theorem F86_eq (F87 : (SV.denL ps87) → Option (rs87).den) (F88 : (SV.denL ps88) → Option (rs88).den) (F89 : (SV.denL ps89) → Option (rs89).den) (x0_0 : Bool) (x0_1 : List Int) (y1_0 : Bool) (y1_1 : List Int) (q2_0 : Bool) (q2_1 : List Int) : F86 F87 F88 F89 ((x0_0, x0_1), (y1_0, y1_1), (q2_0, q2_1), ()) = (
  (F89 ((q2_0, q2_1), (y1_0, y1_1), ())).bind fun y =>
    (F88 ((y.1.1.1, y.1.1.2), ())).bind fun y =>
      (F87 ((x0_0, x0_1), (y.1.1.1, y.1.1.2), ())).bind fun y => some (((y.1.1.1, y.1.1.2), ()), ()) : Option rs86.den) := by kernel_rfl
theorem F90_eq (F61 : (SV.denL ps61) → Option (rs61).den) (F63 : (SV.denL ps63) → Option (rs63).den) (F78 : (SV.denL ps78) → Option (rs78).den) (F87 : (SV.denL ps87) → Option (rs87).den) (a0_0 : Bool) (a0_1 : List Int) (b1_0 : Bool) (b1_1 : List Int) : F90 F61 F63 F78 F87 ((a0_0, a0_1), (b1_0, b1_1), ()) = (
  (F63 ((a0_0, a0_1), ())).bind fun y =>
    (F63 ((b1_0, b1_1), ())).bind fun y_1 =>
      (F78 (y.1.1, y_1.1.1, ())).bind fun y =>
        (F61 (!a0_0 == b1_0, y.1.1, ())).bind fun y_2 =>
          (F61 (a0_0, y.1.2.1, ())).bind fun y_3 =>
            if decide ((↑(List.length y.1.2.1) : Int) > 0) = true then
              if (!a0_0 == b1_0) = true then
                (F87 ((y_2.1.1.1, y_2.1.1.2), (true, [1]), ())).bind fun y =>
                  (F87 ((y_3.1.1.1, y_3.1.1.2), (b1_0, b1_1), ())).bind fun y_4 =>
                    some (((y.1.1.1, y.1.1.2), (y_4.1.1.1, y_4.1.1.2), ()), ())
              else some (((y_2.1.1.1, y_2.1.1.2), (y_3.1.1.1, y_3.1.1.2), ()), ())
            else some (((y_2.1.1.1, y_2.1.1.2), (y_3.1.1.1, y_3.1.1.2), ()), ()) : Option rs90.den) := by kernel_rfl
theorem S29_12_eq (F86 : (SV.denL ps86) → Option (rs86).den) (t58 : Int) (b0_0 : Bool) (b0_1 : List Int) (b1_0 : Bool) (b1_1 : List Int) (b2_0 : Bool) (b2_1 : List Int) (b3_0 : Bool) (b3_1 : List Int) (b3_2 : Bool) (b3_3 : List Int) (b4_0 : Bool) (b4_1 : List Int) (b4_2 : Bool) (b4_3 : List Int) (b4_4 : Bool) (b4_5 : List Int) (b5_0 : Bool) (b5_1 : List Int) (b5_2 : Bool) (b5_3 : List Int) (b5_4 : Bool) (b5_5 : List Int) (b6_0 : Bool) (b6_1 : List Int) (b7_0 : Bool) (b7_1 : List Int) (b7_2 : Bool) (b7_3 : List Int) (b7_4 : Bool) (b7_5 : List Int) : S29_12 F86 (((), (), (), (), (), (), (), (), (), t58, ()), ((b0_0, b0_1, ()), (b1_0, b1_1, ()), (b2_0, b2_1, ()), (b3_0, b3_1, b3_2, b3_3, ()), (b4_0, b4_1, b4_2, b4_3, b4_4, b4_5, ()), (b5_0, b5_1, b5_2, b5_3, b5_4, b5_5, ()), (b6_0, b6_1, ()), (b7_0, b7_1, b7_2, b7_3, b7_4, b7_5, ()), ())) = (
  if decide (t58 < 2) = true then
    if t58 = (↑0 : Int) then
      if t58 = (↑0 : Int) then
        (F86 ((b4_2, b4_3), (b5_2, b5_3), (b6_0, b6_1), ())).bind fun y =>
          if t58 = (↑0 : Int) then
            some
              (Sum.inl
                (((), (), (), (), (), (), (), (), (), IntKind.i64.wrap (t58 + 1), ()), (b0_0, b0_1, ()), (b1_0, b1_1, ()),
                  (b2_0, b2_1, ()), (b3_0, b3_1, b3_2, b3_3, ()), (b4_0, b4_1, b4_2, b4_3, b4_4, b4_5, ()),
                  (b5_0, b5_1, b5_2, b5_3, b5_4, b5_5, ()), (b6_0, b6_1, ()),
                  (b7_0, b7_1, y.1.1.1, y.1.1.2, b7_4, b7_5, ()), ()))
          else
            if t58 = (↑1 : Int) then
              some
                (Sum.inl
                  (((), (), (), (), (), (), (), (), (), IntKind.i64.wrap (t58 + 1), ()), (b0_0, b0_1, ()),
                    (b1_0, b1_1, ()), (b2_0, b2_1, ()), (b3_0, b3_1, b3_2, b3_3, ()),
                    (b4_0, b4_1, b4_2, b4_3, b4_4, b4_5, ()), (b5_0, b5_1, b5_2, b5_3, b5_4, b5_5, ()), (b6_0, b6_1, ()),
                    (b7_0, b7_1, b7_2, b7_3, y.1.1.1, y.1.1.2, ()), ()))
            else none
      else
        if t58 = (↑1 : Int) then
          (F86 ((b4_2, b4_3), (b5_4, b5_5), (b6_0, b6_1), ())).bind fun y =>
            if t58 = (↑0 : Int) then
              some
                (Sum.inl
                  (((), (), (), (), (), (), (), (), (), IntKind.i64.wrap (t58 + 1), ()), (b0_0, b0_1, ()),
                    (b1_0, b1_1, ()), (b2_0, b2_1, ()), (b3_0, b3_1, b3_2, b3_3, ()),
                    (b4_0, b4_1, b4_2, b4_3, b4_4, b4_5, ()), (b5_0, b5_1, b5_2, b5_3, b5_4, b5_5, ()), (b6_0, b6_1, ()),
                    (b7_0, b7_1, y.1.1.1, y.1.1.2, b7_4, b7_5, ()), ()))
            else
              if t58 = (↑1 : Int) then
                some
                  (Sum.inl
                    (((), (), (), (), (), (), (), (), (), IntKind.i64.wrap (t58 + 1), ()), (b0_0, b0_1, ()),
                      (b1_0, b1_1, ()), (b2_0, b2_1, ()), (b3_0, b3_1, b3_2, b3_3, ()),
                      (b4_0, b4_1, b4_2, b4_3, b4_4, b4_5, ()), (b5_0, b5_1, b5_2, b5_3, b5_4, b5_5, ()),
                      (b6_0, b6_1, ()), (b7_0, b7_1, b7_2, b7_3, y.1.1.1, y.1.1.2, ()), ()))
              else none
        else none
    else
      if t58 = (↑1 : Int) then
        if t58 = (↑0 : Int) then
          (F86 ((b4_4, b4_5), (b5_2, b5_3), (b6_0, b6_1), ())).bind fun y =>
            if t58 = (↑0 : Int) then
              some
                (Sum.inl
                  (((), (), (), (), (), (), (), (), (), IntKind.i64.wrap (t58 + 1), ()), (b0_0, b0_1, ()),
                    (b1_0, b1_1, ()), (b2_0, b2_1, ()), (b3_0, b3_1, b3_2, b3_3, ()),
                    (b4_0, b4_1, b4_2, b4_3, b4_4, b4_5, ()), (b5_0, b5_1, b5_2, b5_3, b5_4, b5_5, ()), (b6_0, b6_1, ()),
                    (b7_0, b7_1, y.1.1.1, y.1.1.2, b7_4, b7_5, ()), ()))
            else
              if t58 = (↑1 : Int) then
                some
                  (Sum.inl
                    (((), (), (), (), (), (), (), (), (), IntKind.i64.wrap (t58 + 1), ()), (b0_0, b0_1, ()),
                      (b1_0, b1_1, ()), (b2_0, b2_1, ()), (b3_0, b3_1, b3_2, b3_3, ()),
                      (b4_0, b4_1, b4_2, b4_3, b4_4, b4_5, ()), (b5_0, b5_1, b5_2, b5_3, b5_4, b5_5, ()),
                      (b6_0, b6_1, ()), (b7_0, b7_1, b7_2, b7_3, y.1.1.1, y.1.1.2, ()), ()))
              else none
        else
          if t58 = (↑1 : Int) then
            (F86 ((b4_4, b4_5), (b5_4, b5_5), (b6_0, b6_1), ())).bind fun y =>
              if t58 = (↑0 : Int) then
                some
                  (Sum.inl
                    (((), (), (), (), (), (), (), (), (), IntKind.i64.wrap (t58 + 1), ()), (b0_0, b0_1, ()),
                      (b1_0, b1_1, ()), (b2_0, b2_1, ()), (b3_0, b3_1, b3_2, b3_3, ()),
                      (b4_0, b4_1, b4_2, b4_3, b4_4, b4_5, ()), (b5_0, b5_1, b5_2, b5_3, b5_4, b5_5, ()),
                      (b6_0, b6_1, ()), (b7_0, b7_1, y.1.1.1, y.1.1.2, b7_4, b7_5, ()), ()))
              else
                if t58 = (↑1 : Int) then
                  some
                    (Sum.inl
                      (((), (), (), (), (), (), (), (), (), IntKind.i64.wrap (t58 + 1), ()), (b0_0, b0_1, ()),
                        (b1_0, b1_1, ()), (b2_0, b2_1, ()), (b3_0, b3_1, b3_2, b3_3, ()),
                        (b4_0, b4_1, b4_2, b4_3, b4_4, b4_5, ()), (b5_0, b5_1, b5_2, b5_3, b5_4, b5_5, ()),
                        (b6_0, b6_1, ()), (b7_0, b7_1, b7_2, b7_3, y.1.1.1, y.1.1.2, ()), ()))
                else none
          else none
      else none
  else
    some
      (Sum.inr
        (((), (), (), (), (), (), (), (), ()), (b0_0, b0_1, ()), (b1_0, b1_1, ()), (b2_0, b2_1, ()),
          (b3_0, b3_1, b3_2, b3_3, ()), (b4_0, b4_1, b4_2, b4_3, b4_4, b4_5, ()),
          (b5_0, b5_1, b5_2, b5_3, b5_4, b5_5, ()), (b7_0, b7_1, b7_2, b7_3, b7_4, b7_5, ()), ())) : Option (sh29_12.den ⊕ denX w29_12)) := by kernel_rfl
theorem S29_8_eq (F90 : (SV.denL ps90) → Option (rs90).den) (g29_12 : sh29_12.den → Option (denX w29_12)) (b0_0 : Bool) (b0_1 : List Int) (b1_0 : Bool) (b1_1 : List Int) (b2_0 : Bool) (b2_1 : List Int) (b3_0 : Bool) (b3_1 : List Int) (b3_2 : Bool) (b3_3 : List Int) (b4_0 : Bool) (b4_1 : List Int) (b4_2 : Bool) (b4_3 : List Int) (b4_4 : Bool) (b4_5 : List Int) (b5_0 : Bool) (b5_1 : List Int) (b5_2 : Bool) (b5_3 : List Int) (b5_4 : Bool) (b5_5 : List Int) : S29_8 F90 g29_12 (((), (), (), (), (), (), (), ()), ((b0_0, b0_1, ()), (b1_0, b1_1, ()), (b2_0, b2_1, ()), (b3_0, b3_1, b3_2, b3_3, ()), (b4_0, b4_1, b4_2, b4_3, b4_4, b4_5, ()), (b5_0, b5_1, b5_2, b5_3, b5_4, b5_5, ()), ())) = (
  if ((↑b5_1.length : Int) == 0) = true then
    some
      (Sum.inr
        (((), (), (), (), (), ()), (b0_0, b0_1, ()), (b1_0, b1_1, ()), (b2_0, b2_1, ()), (b3_0, b3_1, b3_2, b3_3, ()),
          (b4_0, b4_1, b4_2, b4_3, b4_4, b4_5, ()), ()))
  else
    (F90 ((b4_0, b4_1), (b5_0, b5_1), ())).bind fun y =>
      (g29_12
            (((), (), (), (), (), (), (), (), (), 0, ()), (b0_0, b0_1, ()), (b1_0, b1_1, ()), (b2_0, b2_1, ()),
              (b3_0, b3_1, b3_2, b3_3, ()), (b4_0, b4_1, b4_2, b4_3, b4_4, b4_5, ()),
              (b5_0, b5_1, b5_2, b5_3, b5_4, b5_5, ()), (y.1.1.1, y.1.1.2, ()),
              (y.1.2.1.1, y.1.2.1.2, false, [], false, [], ()), ())).bind
        fun y =>
        some
          (Sum.inl
            (((), (), (), (), (), (), (), ()), (y.2.1.1, y.2.1.2.1, ()), (y.2.2.1.1, y.2.2.1.2.1, ()),
              (y.2.2.2.1.1, y.2.2.2.1.2.1, ()),
              (y.2.2.2.2.1.1, y.2.2.2.2.1.2.1, y.2.2.2.2.1.2.2.1, y.2.2.2.2.1.2.2.2.1, ()),
              (y.2.2.2.2.2.2.1.1, y.2.2.2.2.2.2.1.2.1, y.2.2.2.2.2.2.1.2.2.1, y.2.2.2.2.2.2.1.2.2.2.1,
                y.2.2.2.2.2.2.1.2.2.2.2.1, y.2.2.2.2.2.2.1.2.2.2.2.2.1, ()),
              (y.2.2.2.2.2.2.2.1.1, y.2.2.2.2.2.2.2.1.2.1, y.2.2.2.2.2.2.2.1.2.2.1, y.2.2.2.2.2.2.2.1.2.2.2.1,
                y.2.2.2.2.2.2.2.1.2.2.2.2.1, y.2.2.2.2.2.2.2.1.2.2.2.2.2.1, ()),
              ())) : Option (sh29_8.den ⊕ denX w29_8)) := by kernel_rfl
theorem S29_18_eq (F88 : (SV.denL ps88) → Option (rs88).den) (t80_0_0 : Bool) (t80_0_1 : List Int) (t80_1 : Bool) (t80_2 : List Int) (t81 : Int) (b0_0 : Bool) (b0_1 : List Int) (b1_0 : Bool) (b1_1 : List Int) (b1_2 : Bool) (b1_3 : List Int) (b2_0 : Bool) (b2_1 : List Int) (b2_2 : Bool) (b2_3 : List Int) (b2_4 : Bool) (b2_5 : List Int) : S29_18 F88 (((), (), (), ((t80_0_0, t80_0_1), t80_1, t80_2), t81, ()), ((b0_0, b0_1, ()), (b1_0, b1_1, b1_2, b1_3, ()), (b2_0, b2_1, b2_2, b2_3, b2_4, b2_5, ()), ())) = (
  if decide (t81 < 2) = true then
    if t81 = (↑0 : Int) then
      if t80_0_0 = true then
        if t81 = (↑0 : Int) then
          (F88 ((b2_2, b2_3), ())).bind fun y =>
            if t81 = (↑0 : Int) then
              if t81 = (↑0 : Int) then
                if decide ((↑(List.length y.1.1.2) : Int) > 200) = true then
                  some (Sum.inr (Sum.inl (((), (), 4, ()), (false, [], ()), (false, [], false, [], ()), ())))
                else
                  some
                    (Sum.inl
                      (((), (), (), ((t80_0_0, t80_0_1), t80_1, t80_2), IntKind.i64.wrap (t81 + 1), ()), (b0_0, b0_1, ()),
                        (b1_0, b1_1, b1_2, b1_3, ()), (b2_0, b2_1, y.1.1.1, y.1.1.2, b2_4, b2_5, ()), ()))
              else
                if t81 = (↑1 : Int) then
                  if decide ((↑b2_5.length : Int) > 200) = true then
                    some (Sum.inr (Sum.inl (((), (), 4, ()), (false, [], ()), (false, [], false, [], ()), ())))
                  else
                    some
                      (Sum.inl
                        (((), (), (), ((t80_0_0, t80_0_1), t80_1, t80_2), IntKind.i64.wrap (t81 + 1), ()),
                          (b0_0, b0_1, ()), (b1_0, b1_1, b1_2, b1_3, ()), (b2_0, b2_1, y.1.1.1, y.1.1.2, b2_4, b2_5, ()),
                          ()))
                else none
            else
              if t81 = (↑1 : Int) then
                if t81 = (↑0 : Int) then
                  if decide ((↑b2_3.length : Int) > 200) = true then
                    some (Sum.inr (Sum.inl (((), (), 4, ()), (false, [], ()), (false, [], false, [], ()), ())))
                  else
                    some
                      (Sum.inl
                        (((), (), (), ((t80_0_0, t80_0_1), t80_1, t80_2), IntKind.i64.wrap (t81 + 1), ()),
                          (b0_0, b0_1, ()), (b1_0, b1_1, b1_2, b1_3, ()), (b2_0, b2_1, b2_2, b2_3, y.1.1.1, y.1.1.2, ()),
                          ()))
                else
                  if t81 = (↑1 : Int) then
                    if decide ((↑(List.length y.1.1.2) : Int) > 200) = true then
                      some (Sum.inr (Sum.inl (((), (), 4, ()), (false, [], ()), (false, [], false, [], ()), ())))
                    else
                      some
                        (Sum.inl
                          (((), (), (), ((t80_0_0, t80_0_1), t80_1, t80_2), IntKind.i64.wrap (t81 + 1), ()),
                            (b0_0, b0_1, ()), (b1_0, b1_1, b1_2, b1_3, ()),
                            (b2_0, b2_1, b2_2, b2_3, y.1.1.1, y.1.1.2, ()), ()))
                  else none
              else none
        else
          if t81 = (↑1 : Int) then
            (F88 ((b2_4, b2_5), ())).bind fun y =>
              if t81 = (↑0 : Int) then
                if t81 = (↑0 : Int) then
                  if decide ((↑(List.length y.1.1.2) : Int) > 200) = true then
                    some (Sum.inr (Sum.inl (((), (), 4, ()), (false, [], ()), (false, [], false, [], ()), ())))
                  else
                    some
                      (Sum.inl
                        (((), (), (), ((t80_0_0, t80_0_1), t80_1, t80_2), IntKind.i64.wrap (t81 + 1), ()),
                          (b0_0, b0_1, ()), (b1_0, b1_1, b1_2, b1_3, ()), (b2_0, b2_1, y.1.1.1, y.1.1.2, b2_4, b2_5, ()),
                          ()))
                else
                  if t81 = (↑1 : Int) then
                    if decide ((↑b2_5.length : Int) > 200) = true then
                      some (Sum.inr (Sum.inl (((), (), 4, ()), (false, [], ()), (false, [], false, [], ()), ())))
                    else
                      some
                        (Sum.inl
                          (((), (), (), ((t80_0_0, t80_0_1), t80_1, t80_2), IntKind.i64.wrap (t81 + 1), ()),
                            (b0_0, b0_1, ()), (b1_0, b1_1, b1_2, b1_3, ()),
                            (b2_0, b2_1, y.1.1.1, y.1.1.2, b2_4, b2_5, ()), ()))
                  else none
              else
                if t81 = (↑1 : Int) then
                  if t81 = (↑0 : Int) then
                    if decide ((↑b2_3.length : Int) > 200) = true then
                      some (Sum.inr (Sum.inl (((), (), 4, ()), (false, [], ()), (false, [], false, [], ()), ())))
                    else
                      some
                        (Sum.inl
                          (((), (), (), ((t80_0_0, t80_0_1), t80_1, t80_2), IntKind.i64.wrap (t81 + 1), ()),
                            (b0_0, b0_1, ()), (b1_0, b1_1, b1_2, b1_3, ()),
                            (b2_0, b2_1, b2_2, b2_3, y.1.1.1, y.1.1.2, ()), ()))
                  else
                    if t81 = (↑1 : Int) then
                      if decide ((↑(List.length y.1.1.2) : Int) > 200) = true then
                        some (Sum.inr (Sum.inl (((), (), 4, ()), (false, [], ()), (false, [], false, [], ()), ())))
                      else
                        some
                          (Sum.inl
                            (((), (), (), ((t80_0_0, t80_0_1), t80_1, t80_2), IntKind.i64.wrap (t81 + 1), ()),
                              (b0_0, b0_1, ()), (b1_0, b1_1, b1_2, b1_3, ()),
                              (b2_0, b2_1, b2_2, b2_3, y.1.1.1, y.1.1.2, ()), ()))
                    else none
                else none
          else none
      else
        if t81 = (↑0 : Int) then
          if decide ((↑b2_3.length : Int) > 200) = true then
            some (Sum.inr (Sum.inl (((), (), 4, ()), (false, [], ()), (false, [], false, [], ()), ())))
          else
            some
              (Sum.inl
                (((), (), (), ((t80_0_0, t80_0_1), t80_1, t80_2), IntKind.i64.wrap (t81 + 1), ()), (b0_0, b0_1, ()),
                  (b1_0, b1_1, b1_2, b1_3, ()), (b2_0, b2_1, b2_2, b2_3, b2_4, b2_5, ()), ()))
        else
          if t81 = (↑1 : Int) then
            if decide ((↑b2_5.length : Int) > 200) = true then
              some (Sum.inr (Sum.inl (((), (), 4, ()), (false, [], ()), (false, [], false, [], ()), ())))
            else
              some
                (Sum.inl
                  (((), (), (), ((t80_0_0, t80_0_1), t80_1, t80_2), IntKind.i64.wrap (t81 + 1), ()), (b0_0, b0_1, ()),
                    (b1_0, b1_1, b1_2, b1_3, ()), (b2_0, b2_1, b2_2, b2_3, b2_4, b2_5, ()), ()))
          else none
    else
      if t81 = (↑1 : Int) then
        if t80_1 = true then
          if t81 = (↑0 : Int) then
            (F88 ((b2_2, b2_3), ())).bind fun y =>
              if t81 = (↑0 : Int) then
                if t81 = (↑0 : Int) then
                  if decide ((↑(List.length y.1.1.2) : Int) > 200) = true then
                    some (Sum.inr (Sum.inl (((), (), 4, ()), (false, [], ()), (false, [], false, [], ()), ())))
                  else
                    some
                      (Sum.inl
                        (((), (), (), ((t80_0_0, t80_0_1), t80_1, t80_2), IntKind.i64.wrap (t81 + 1), ()),
                          (b0_0, b0_1, ()), (b1_0, b1_1, b1_2, b1_3, ()), (b2_0, b2_1, y.1.1.1, y.1.1.2, b2_4, b2_5, ()),
                          ()))
                else
                  if t81 = (↑1 : Int) then
                    if decide ((↑b2_5.length : Int) > 200) = true then
                      some (Sum.inr (Sum.inl (((), (), 4, ()), (false, [], ()), (false, [], false, [], ()), ())))
                    else
                      some
                        (Sum.inl
                          (((), (), (), ((t80_0_0, t80_0_1), t80_1, t80_2), IntKind.i64.wrap (t81 + 1), ()),
                            (b0_0, b0_1, ()), (b1_0, b1_1, b1_2, b1_3, ()),
                            (b2_0, b2_1, y.1.1.1, y.1.1.2, b2_4, b2_5, ()), ()))
                  else none
              else
                if t81 = (↑1 : Int) then
                  if t81 = (↑0 : Int) then
                    if decide ((↑b2_3.length : Int) > 200) = true then
                      some (Sum.inr (Sum.inl (((), (), 4, ()), (false, [], ()), (false, [], false, [], ()), ())))
                    else
                      some
                        (Sum.inl
                          (((), (), (), ((t80_0_0, t80_0_1), t80_1, t80_2), IntKind.i64.wrap (t81 + 1), ()),
                            (b0_0, b0_1, ()), (b1_0, b1_1, b1_2, b1_3, ()),
                            (b2_0, b2_1, b2_2, b2_3, y.1.1.1, y.1.1.2, ()), ()))
                  else
                    if t81 = (↑1 : Int) then
                      if decide ((↑(List.length y.1.1.2) : Int) > 200) = true then
                        some (Sum.inr (Sum.inl (((), (), 4, ()), (false, [], ()), (false, [], false, [], ()), ())))
                      else
                        some
                          (Sum.inl
                            (((), (), (), ((t80_0_0, t80_0_1), t80_1, t80_2), IntKind.i64.wrap (t81 + 1), ()),
                              (b0_0, b0_1, ()), (b1_0, b1_1, b1_2, b1_3, ()),
                              (b2_0, b2_1, b2_2, b2_3, y.1.1.1, y.1.1.2, ()), ()))
                    else none
                else none
          else
            if t81 = (↑1 : Int) then
              (F88 ((b2_4, b2_5), ())).bind fun y =>
                if t81 = (↑0 : Int) then
                  if t81 = (↑0 : Int) then
                    if decide ((↑(List.length y.1.1.2) : Int) > 200) = true then
                      some (Sum.inr (Sum.inl (((), (), 4, ()), (false, [], ()), (false, [], false, [], ()), ())))
                    else
                      some
                        (Sum.inl
                          (((), (), (), ((t80_0_0, t80_0_1), t80_1, t80_2), IntKind.i64.wrap (t81 + 1), ()),
                            (b0_0, b0_1, ()), (b1_0, b1_1, b1_2, b1_3, ()),
                            (b2_0, b2_1, y.1.1.1, y.1.1.2, b2_4, b2_5, ()), ()))
                  else
                    if t81 = (↑1 : Int) then
                      if decide ((↑b2_5.length : Int) > 200) = true then
                        some (Sum.inr (Sum.inl (((), (), 4, ()), (false, [], ()), (false, [], false, [], ()), ())))
                      else
                        some
                          (Sum.inl
                            (((), (), (), ((t80_0_0, t80_0_1), t80_1, t80_2), IntKind.i64.wrap (t81 + 1), ()),
                              (b0_0, b0_1, ()), (b1_0, b1_1, b1_2, b1_3, ()),
                              (b2_0, b2_1, y.1.1.1, y.1.1.2, b2_4, b2_5, ()), ()))
                    else none
                else
                  if t81 = (↑1 : Int) then
                    if t81 = (↑0 : Int) then
                      if decide ((↑b2_3.length : Int) > 200) = true then
                        some (Sum.inr (Sum.inl (((), (), 4, ()), (false, [], ()), (false, [], false, [], ()), ())))
                      else
                        some
                          (Sum.inl
                            (((), (), (), ((t80_0_0, t80_0_1), t80_1, t80_2), IntKind.i64.wrap (t81 + 1), ()),
                              (b0_0, b0_1, ()), (b1_0, b1_1, b1_2, b1_3, ()),
                              (b2_0, b2_1, b2_2, b2_3, y.1.1.1, y.1.1.2, ()), ()))
                    else
                      if t81 = (↑1 : Int) then
                        if decide ((↑(List.length y.1.1.2) : Int) > 200) = true then
                          some (Sum.inr (Sum.inl (((), (), 4, ()), (false, [], ()), (false, [], false, [], ()), ())))
                        else
                          some
                            (Sum.inl
                              (((), (), (), ((t80_0_0, t80_0_1), t80_1, t80_2), IntKind.i64.wrap (t81 + 1), ()),
                                (b0_0, b0_1, ()), (b1_0, b1_1, b1_2, b1_3, ()),
                                (b2_0, b2_1, b2_2, b2_3, y.1.1.1, y.1.1.2, ()), ()))
                      else none
                  else none
            else none
        else
          if t81 = (↑0 : Int) then
            if decide ((↑b2_3.length : Int) > 200) = true then
              some (Sum.inr (Sum.inl (((), (), 4, ()), (false, [], ()), (false, [], false, [], ()), ())))
            else
              some
                (Sum.inl
                  (((), (), (), ((t80_0_0, t80_0_1), t80_1, t80_2), IntKind.i64.wrap (t81 + 1), ()), (b0_0, b0_1, ()),
                    (b1_0, b1_1, b1_2, b1_3, ()), (b2_0, b2_1, b2_2, b2_3, b2_4, b2_5, ()), ()))
          else
            if t81 = (↑1 : Int) then
              if decide ((↑b2_5.length : Int) > 200) = true then
                some (Sum.inr (Sum.inl (((), (), 4, ()), (false, [], ()), (false, [], false, [], ()), ())))
              else
                some
                  (Sum.inl
                    (((), (), (), ((t80_0_0, t80_0_1), t80_1, t80_2), IntKind.i64.wrap (t81 + 1), ()), (b0_0, b0_1, ()),
                      (b1_0, b1_1, b1_2, b1_3, ()), (b2_0, b2_1, b2_2, b2_3, b2_4, b2_5, ()), ()))
            else none
      else none
  else
    some
      (Sum.inr
        (Sum.inr
          (((), (), (), ()), (b0_0, b0_1, ()), (b1_0, b1_1, b1_2, b1_3, ()), (b2_0, b2_1, b2_2, b2_3, b2_4, b2_5, ()),
            ()))) : Option (sh29_18.den ⊕ denX w29_18)) := by kernel_rfl
theorem F29_eq (F58 : (SV.denL ps58) → Option (rs58).den) (F61 : (SV.denL ps61) → Option (rs61).den) (F63 : (SV.denL ps63) → Option (rs63).den) (F85 : (SV.denL ps85) → Option (rs85).den) (g29_8 : sh29_8.den → Option (denX w29_8)) (g29_18 : sh29_18.den → Option (denX w29_18)) (a0_0 : Bool) (a0_1 : List Int) (b1_0 : Bool) (b1_1 : List Int) : F29 F58 F61 F63 F85 g29_8 g29_18 ((a0_0, a0_1), (b1_0, b1_1), ()) = (
  (F85 ([(a0_0, a0_1), (b1_0, b1_1)], ())).bind fun y =>
    if (!y.1.1 == 0) = true then some (((false, []), ((false, []), false, []), y.1.1, ()), ())
    else
      (F58 (1, ())).bind fun y =>
        (F61 (false, y.1.1, ())).bind fun y =>
          (F63 ((a0_0, a0_1), ())).bind fun y_1 =>
            (F61 (false, y_1.1.1, ())).bind fun y_2 =>
              (F63 ((b1_0, b1_1), ())).bind fun y_3 =>
                (F61 (false, y_3.1.1, ())).bind fun y_4 =>
                  (g29_8
                        (((), (), (), (), (), (), (), ()), (a0_0, a0_1, ()), (b1_0, b1_1, ()), (false, [], ()),
                          (false, [], false, [], ()), (y_2.1.1.1, y_2.1.1.2, y.1.1.1, y.1.1.2, false, [], ()),
                          (y_4.1.1.1, y_4.1.1.2, false, [], y.1.1.1, y.1.1.2, ()), ())).bind
                    fun y =>
                    (g29_18
                          (((), (), (), ((y.2.1.1, y.2.1.2.1), y.2.2.1.1, y.2.2.1.2.1), 0, ()),
                            (y.2.2.2.1.1, y.2.2.2.1.2.1, ()),
                            (y.2.2.2.2.1.1, y.2.2.2.2.1.2.1, y.2.2.2.2.1.2.2.1, y.2.2.2.2.1.2.2.2.1, ()),
                            (y.2.2.2.2.2.1.1, y.2.2.2.2.2.1.2.1, y.2.2.2.2.2.1.2.2.1, y.2.2.2.2.2.1.2.2.2.1,
                              y.2.2.2.2.2.1.2.2.2.2.1, y.2.2.2.2.2.1.2.2.2.2.2.1, ()),
                            ())).bind
                      fun y =>
                      Sum.elim
                        (fun y =>
                          some
                            (((y.2.1.1, y.2.1.2.1), ((y.2.2.1.1, y.2.2.1.2.1), y.2.2.1.2.2.1, y.2.2.1.2.2.2.1), y.1.2.2.1,
                                ()),
                              ()))
                        (fun z =>
                          some
                            (((z.2.2.2.1.1, z.2.2.2.1.2.1),
                                ((z.2.2.2.1.2.2.1, z.2.2.2.1.2.2.2.1), z.2.2.2.1.2.2.2.2.1, z.2.2.2.1.2.2.2.2.2.1), 0,
                                ()),
                              ()))
                        y : Option rs29.den) := by kernel_rfl
theorem S31_7_eq (F89 : (SV.denL ps89) → Option (rs89).den) (F90 : (SV.denL ps90) → Option (rs90).den) (i13 : Int) (b0_0 : Bool) (b0_1 : List Int) (b1_0 : Bool) (b1_1 : List Int) (b2_0 : Bool) (b2_1 : List Int) (b3_0 : Bool) (b3_1 : List Int) (b4_0 : Bool) (b4_1 : List Int) : S31_7 F89 F90 (((), (), (), (), (), i13, ()), ((b0_0, b0_1, ()), (b1_0, b1_1, ()), (b2_0, b2_1, ()), (b3_0, b3_1, ()), (b4_0, b4_1, ()), ())) = (
  if decide (i13 ≥ 0) = true then
    (F89 ((b4_0, b4_1), (b4_0, b4_1), ())).bind fun y =>
      (F90 ((y.1.1.1, y.1.1.2), (b1_0, b1_1), ())).bind fun y =>
        if 0 ≤ IntKind.i64.wrap (i13.tdiv 32) then
          if IntKind.i64.wrap (i13.tdiv 32) < (↑b0_1.length : Int) then
            if i13.tmod 32 < 0 then none
            else
              if
                  (bitop BinOp.and IntKind.u32
                        (Int.fdiv (b0_1.getD (IntKind.i64.wrap (i13.tdiv 32)).toNat 0) (2 ^ min (i13.tmod 32).toNat 32))
                        1 ==
                      1) =
                    true then
                (F89 ((y.1.2.1.1, y.1.2.1.2), (b3_0, b3_1), ())).bind fun y =>
                  (F90 ((y.1.1.1, y.1.1.2), (b1_0, b1_1), ())).bind fun y =>
                    some
                      (Sum.inl
                        (((), (), (), (), (), IntKind.i64.wrap (i13 - 1), ()), (b0_0, b0_1, ()), (b1_0, b1_1, ()),
                          (b2_0, b2_1, ()), (b3_0, b3_1, ()), (y.1.2.1.1, y.1.2.1.2, ()), ()))
              else
                some
                  (Sum.inl
                    (((), (), (), (), (), IntKind.i64.wrap (i13 - 1), ()), (b0_0, b0_1, ()), (b1_0, b1_1, ()),
                      (b2_0, b2_1, ()), (b3_0, b3_1, ()), (y.1.2.1.1, y.1.2.1.2, ()), ()))
          else none
        else none
  else some (Sum.inr (((), (), ()), (b2_0, b2_1, ()), (b4_0, b4_1, ()), ())) : Option (sh31_7.den ⊕ denX w31_7)) := by kernel_rfl
theorem F31_eq (F52 : (SV.denL ps52) → Option (rs52).den) (F53 : (SV.denL ps53) → Option (rs53).den) (F58 : (SV.denL ps58) → Option (rs58).den) (F61 : (SV.denL ps61) → Option (rs61).den) (F63 : (SV.denL ps63) → Option (rs63).den) (F69 : (SV.denL ps69) → Option (rs69).den) (F85 : (SV.denL ps85) → Option (rs85).den) (F90 : (SV.denL ps90) → Option (rs90).den) (g31_7 : sh31_7.den → Option (denX w31_7)) (a0_0 : Bool) (a0_1 : List Int) (n1_0 : Bool) (n1_1 : List Int) (m2_0 : Bool) (m2_1 : List Int) : F31 F52 F53 F58 F61 F63 F69 F85 F90 g31_7 ((a0_0, a0_1), (n1_0, n1_1), (m2_0, m2_1), ()) = (
  (F85 ([(a0_0, a0_1), (n1_0, n1_1), (m2_0, m2_1)], ())).bind fun y =>
    (F53 (n1_0, 3, ())).bind fun y_1 =>
      if m2_0 = true then
        (F53 (true, 34, ())).bind fun y_2 =>
          (F53 (decide ((↑n1_1.length : Int) > 8), 4, ())).bind fun y_3 =>
            (F52 ([y.1.1, y_1.1.1, y_2.1.1, y_3.1.1], ())).bind fun y =>
              if (!y.1.1 == 0) = true then some (((false, []), y.1.1, ()), ())
              else
                (F90 ((a0_0, a0_1), (m2_0, m2_1), ())).bind fun y =>
                  (F58 (1, ())).bind fun y_4 =>
                    (F61 (false, y_4.1.1, ())).bind fun y_5 =>
                      (F90 ((y_5.1.1.1, y_5.1.1.2), (m2_0, m2_1), ())).bind fun y_6 =>
                        (F63 ((n1_0, n1_1), ())).bind fun y_7 =>
                          (F69 (y_7.1.1, ())).bind fun y_8 =>
                            (g31_7
                                  (((), (), (), (), (), IntKind.i64.wrap (y_8.1.1 - 1), ()), (n1_0, n1_1, ()),
                                    (m2_0, m2_1, ()), (false, [], ()), (y.1.2.1.1, y.1.2.1.2, ()),
                                    (y_6.1.2.1.1, y_6.1.2.1.2, ()), ())).bind
                              fun y => some (((y.2.2.1.1, y.2.2.1.2.1), 0, ()), ())
      else
        (F53 ((↑m2_1.length : Int) == 0, 34, ())).bind fun y_2 =>
          (F53 (decide ((↑n1_1.length : Int) > 8), 4, ())).bind fun y_3 =>
            (F52 ([y.1.1, y_1.1.1, y_2.1.1, y_3.1.1], ())).bind fun y =>
              if (!y.1.1 == 0) = true then some (((false, []), y.1.1, ()), ())
              else
                (F90 ((a0_0, a0_1), (m2_0, m2_1), ())).bind fun y =>
                  (F58 (1, ())).bind fun y_4 =>
                    (F61 (false, y_4.1.1, ())).bind fun y_5 =>
                      (F90 ((y_5.1.1.1, y_5.1.1.2), (m2_0, m2_1), ())).bind fun y_6 =>
                        (F63 ((n1_0, n1_1), ())).bind fun y_7 =>
                          (F69 (y_7.1.1, ())).bind fun y_8 =>
                            (g31_7
                                  (((), (), (), (), (), IntKind.i64.wrap (y_8.1.1 - 1), ()), (n1_0, n1_1, ()),
                                    (m2_0, m2_1, ()), (false, [], ()), (y.1.2.1.1, y.1.2.1.2, ()),
                                    (y_6.1.2.1.1, y_6.1.2.1.2, ()), ())).bind
                              fun y => some (((y.2.2.1.1, y.2.2.1.2.1), 0, ()), ()) : Option rs31.den) := by kernel_rfl
theorem F39_eq (F52 : (SV.denL ps52) → Option (rs52).den) (F53 : (SV.denL ps53) → Option (rs53).den) (F85 : (SV.denL ps85) → Option (rs85).den) (F90 : (SV.denL ps90) → Option (rs90).den) (a0_0 : Bool) (a0_1 : List Int) (b1_0 : Bool) (b1_1 : List Int) : F39 F52 F53 F85 F90 ((a0_0, a0_1), (b1_0, b1_1), ()) = (
  (F85 ([(a0_0, a0_1), (b1_0, b1_1)], ())).bind fun y =>
    (F53 ((↑b1_1.length : Int) == 0, 34, ())).bind fun y_1 =>
      (F52 ([y.1.1, y_1.1.1], ())).bind fun y =>
        if (!y.1.1 == 0) = true then some (((false, []), (false, []), y.1.1, ()), ())
        else
          (F90 ((a0_0, a0_1), (b1_0, b1_1), ())).bind fun y =>
            (F53 (decide ((↑(List.length y.1.1.2) : Int) > 200), 4, ())).bind fun y_2 =>
              (F53 (decide ((↑(List.length y.1.2.1.2) : Int) > 200), 4, ())).bind fun y_3 =>
                (F52 ([y_2.1.1, y_3.1.1], ())).bind fun y_4 =>
                  if (!y_4.1.1 == 0) = true then some (((false, []), (false, []), y_4.1.1, ()), ())
                  else some (((y.1.1.1, y.1.1.2), (y.1.2.1.1, y.1.2.1.2), 0, ()), ()) : Option rs39.den) := by kernel_rfl
theorem F45_eq (n0 : Int) : F45 (n0, ()) = (
  if decide (n0 < 0) = true then
    if decide (IntKind.i64.wrap (0 - n0) > 0) = true then
      some (((decide (n0 < 0), [IntKind.u32.wrap (IntKind.i64.wrap (0 - n0))]), ()), ())
    else some (((decide (n0 < 0), []), ()), ())
  else
    if decide (n0 > 0) = true then some (((decide (n0 < 0), [IntKind.u32.wrap n0]), ()), ())
    else some (((decide (n0 < 0), []), ()), ()) : Option rs45.den) := by kernel_rfl
theorem F46_eq (F12 : (SV.denL ps12) → Option (rs12).den) (F13 : (SV.denL ps13) → Option (rs13).den) (F45 : (SV.denL ps45) → Option (rs45).den) (a0_0 : Bool) (a0_1 : List Int) (n1 : Int) : F46 F12 F13 F45 ((a0_0, a0_1), n1, ()) = (
  (F13 ((a0_0, a0_1), ())).bind fun y =>
    (F45 (n1, ())).bind fun y_1 =>
      (F13 ((y_1.1.1.1, y_1.1.1.2), ())).bind fun y_2 =>
        (F12 ((y.1.1.1, y.1.1.2), (y_2.1.1.1, y_2.1.1.2), ())).bind fun y => some ((y.1.1, ()), ()) : Option rs46.den) := by kernel_rfl
theorem S14_2_eq (most0 : Int) (t7 : List (Bool × List Int)) (t8 : Int) (t9 : Int) : S14_2 ((most0, t7, t8, t9, ()), ()) = (
  if decide (t9 < t8) = true then
    if 0 ≤ t9 then
      if t9 < (↑t7.length : Int) then
        if decide ((↑(List.length (t7.getD t9.toNat (false, [])).2) : Int) > most0) = true then
          if (!(↑(List.length (t7.getD t9.toNat (false, [])).2) : Int) == 201) = true then
            some (Sum.inr (Sum.inl ((false, ()), ())))
          else some (Sum.inl ((most0, t7, t8, IntKind.i64.wrap (t9 + 1), ()), ()))
        else some (Sum.inl ((most0, t7, t8, IntKind.i64.wrap (t9 + 1), ()), ()))
      else none
    else none
  else some (Sum.inr (Sum.inr ((), ()))) : Option (sh14_2.den ⊕ denX w14_2)) := by kernel_rfl
theorem F14_eq (g14_2 : sh14_2.den → Option (denX w14_2)) (most0 : Int) (l1 : List (Bool × List Int)) : F14 g14_2 (most0, l1, ()) = (
  (g14_2 ((most0, l1, (↑l1.length : Int), 0, ()), ())).bind fun y =>
    Sum.elim (fun y => some ((y.1.1, ()), ())) (fun z => some ((true, ()), ())) y : Option rs14.den) := by kernel_rfl
theorem F72_eq (is0 : Bool) (e1 : Int) : F72 (is0, e1, ()) = (
  if is0 = true then some ((e1, ()), ()) else some ((0, ()), ()) : Option rs72.den) := by kernel_rfl
theorem F23_eq (F72 : (SV.denL ps72) → Option (rs72).den) (a0_0 : Bool) (a0_1 : List Int) : F23 F72 ((a0_0, a0_1), ()) = (
  if decide ((↑a0_1.length : Int) > 200) = true then some ((5, ()), ())
  else
    if ((↑a0_1.length : Int) == 0) = true then
      if a0_0 = true then (F72 (true, 1, ())).bind fun y => some ((y.1.1, ()), ())
      else
        if decide ((↑a0_1.length : Int) > 0) = true then
          if 0 ≤ IntKind.i64.wrap ((↑a0_1.length : Int) - 1) then
            if IntKind.i64.wrap ((↑a0_1.length : Int) - 1) < (↑a0_1.length : Int) then
              (F72 (a0_1.getD (IntKind.i64.wrap ((↑a0_1.length : Int) - 1)).toNat 0 == 0, 1, ())).bind fun y =>
                some ((y.1.1, ()), ())
            else none
          else none
        else (F72 (false, 1, ())).bind fun y => some ((y.1.1, ()), ())
    else
      if decide ((↑a0_1.length : Int) > 0) = true then
        if 0 ≤ IntKind.i64.wrap ((↑a0_1.length : Int) - 1) then
          if IntKind.i64.wrap ((↑a0_1.length : Int) - 1) < (↑a0_1.length : Int) then
            (F72 (a0_1.getD (IntKind.i64.wrap ((↑a0_1.length : Int) - 1)).toNat 0 == 0, 1, ())).bind fun y =>
              some ((y.1.1, ()), ())
          else none
        else none
      else (F72 (false, 1, ())).bind fun y => some ((y.1.1, ()), ()) : Option rs23.den) := by kernel_rfl
theorem S50B_2_eq (n3 : Int) (r0 : List Int) : S50B_2 (((), n3, ()), (r0, ())) = (
  if decide (n3 > 0) = true then
    if 0 ≤ IntKind.i64.wrap (n3 - 1) then
      if IntKind.i64.wrap (n3 - 1) < (↑r0.length : Int) then
        if (r0.getD (IntKind.i64.wrap (n3 - 1)).toNat 0 == 0) = true then
          some (Sum.inl (((), IntKind.i64.wrap (n3 - 1), ()), r0, ()))
        else some (Sum.inr (((), n3, ()), r0, ()))
      else none
    else none
  else some (Sum.inr (((), n3, ()), r0, ())) : Option (sh50B_2.den ⊕ denX w50B_2)) := by kernel_rfl
theorem F50B_eq (g50B_2 : sh50B_2.den → Option (denX w50B_2)) (r0 : List Int) : F50B g50B_2 (((), ()), (r0, ())) = (
  (g50B_2 (((), (↑r0.length : Int), ()), r0, ())).bind fun y =>
    if 0 ≤ y.1.2.1 then
      if y.1.2.1 ≤ (↑(List.length y.2.1) : Int) then some (((), Int.toNat y.1.2.1 - 0, ()), y.2.1, ()) else none
    else none : Option rs50B.den) := by kernel_rfl
theorem S15_13_eq (base1 : Int) (r9 : Int) (i10 : Int) (b0_0 : Bool) (b0_1 : List Int) (r1 : List Int) (r2 : List Int) : S15_13 ((base1, (), (), (), r9, i10, ()), ((b0_0, b0_1, ()), r1, r2, ())) = (
  if decide (i10 ≥ 0) = true then
    if 0 ≤ i10 then
      if i10 < (↑r2.length : Int) then
        if IntKind.u64.wrap base1 = 0 then none
        else
          if 0 ≤ i10 then
            if i10 < (↑r2.length : Int) then
              if IntKind.u64.wrap base1 = 0 then none
              else
                some
                  (Sum.inl
                    ((base1, (), (), (),
                        (IntKind.u64.wrap
                              (IntKind.u64.wrap (r9 * 4294967296) + IntKind.u64.wrap (r2.getD i10.toNat 0))).tmod
                          (IntKind.u64.wrap base1),
                        IntKind.i64.wrap (i10 - 1), ()),
                      (b0_0, b0_1, ()), r1,
                      r2.set i10.toNat
                        (IntKind.u32.wrap
                          (IntKind.u64.wrap
                            ((IntKind.u64.wrap
                                  (IntKind.u64.wrap (r9 * 4294967296) + IntKind.u64.wrap (r2.getD i10.toNat 0))).tdiv
                              (IntKind.u64.wrap base1)))),
                      ()))
            else none
          else none
      else none
    else none
  else some (Sum.inr ((base1, (), (), (), r9, ()), (b0_0, b0_1, ()), r1, r2, ())) : Option (sh15_13.den ⊕ denX w15_13)) := by kernel_rfl
theorem S15_10_eq (F50B : (psh50B.den) → Option (rs50B).den) (g15_13 : sh15_13.den → Option (denX w15_13)) (base1 : Int) (b0_0 : Bool) (b0_1 : List Int) (r1 : List Int) (r2 : List Int) : S15_10 F50B g15_13 ((base1, (), (), (), ()), ((b0_0, b0_1, ()), r1, r2, ())) = (
  if decide ((↑r2.length : Int) > 0) = true then
    (g15_13 ((base1, (), (), (), 0, IntKind.i64.wrap ((↑r2.length : Int) - 1), ()), (b0_0, b0_1, ()), r1, r2, ())).bind
      fun y =>
      (F50B (((), ()), y.2.2.2.1, ())).bind fun z =>
        if decide (y.1.2.2.2.2.1 > 9) = true then
          if
              List.length y.2.2.1 +
                  [IntKind.u8.wrap (IntKind.u64.wrap (IntKind.u64.wrap (97 + y.1.2.2.2.2.1) - 10))].length ≤
                4294967296 then
            some
              (Sum.inl
                ((y.1.1, (), (), (), ()), (y.2.1.1, y.2.1.2.1, ()),
                  y.2.2.1 ++ [IntKind.u8.wrap (IntKind.u64.wrap (IntKind.u64.wrap (97 + y.1.2.2.2.2.1) - 10))],
                  List.take z.1.2.1 z.2.1, ()))
          else none
        else
          if List.length y.2.2.1 + [IntKind.u8.wrap (IntKind.u64.wrap (48 + y.1.2.2.2.2.1))].length ≤ 4294967296 then
            some
              (Sum.inl
                ((y.1.1, (), (), (), ()), (y.2.1.1, y.2.1.2.1, ()),
                  y.2.2.1 ++ [IntKind.u8.wrap (IntKind.u64.wrap (48 + y.1.2.2.2.2.1))], List.take z.1.2.1 z.2.1, ()))
          else none
  else some (Sum.inr (((), (), ()), (b0_0, b0_1, ()), r1, ())) : Option (sh15_10.den ⊕ denX w15_10)) := by kernel_rfl
theorem S15_26_eq (i12 : Int) (k13 : Int) (r0 : List Int) : S15_26 (((), i12, k13, ()), (r0, ())) = (
  if decide (i12 < k13) = true then
    if 0 ≤ k13 then
      if k13 < (↑r0.length : Int) then
        if 0 ≤ i12 then
          if i12 < (↑r0.length : Int) then
            if 0 ≤ i12 then
              if i12 < (↑r0.length : Int) then
                if 0 ≤ k13 then
                  if k13 < (↑(r0.set i12.toNat (r0.getD k13.toNat 0)).length : Int) then
                    some
                      (Sum.inl
                        (((), IntKind.i64.wrap (i12 + 1), IntKind.i64.wrap (k13 - 1), ()),
                          (r0.set i12.toNat (r0.getD k13.toNat 0)).set k13.toNat (r0.getD i12.toNat 0), ()))
                  else none
                else none
              else none
            else none
          else none
        else none
      else none
    else none
  else some (Sum.inr (((), ()), r0, ())) : Option (sh15_26.den ⊕ denX w15_26)) := by kernel_rfl
theorem F15_eq (F23 : (SV.denL ps23) → Option (rs23).den) (g15_10 : sh15_10.den → Option (denX w15_10)) (g15_26 : sh15_26.den → Option (denX w15_26)) (a0_0 : Bool) (a0_1 : List Int) (base1 : Int) : F15 F23 g15_10 g15_26 ((a0_0, a0_1), base1, ()) = (
  (F23 ((a0_0, a0_1), ())).bind fun y =>
    if (!y.1.1 == 0) = true then some (([], y.1.1, ()), ())
    else
      if decide (base1 < 2) = true then some (([], 3, ()), ())
      else
        if decide (base1 > 36) = true then some (([], 3, ()), ())
        else
          if ((↑a0_1.length : Int) == 0) = true then some (([(48 : UInt8)], 0, ()), ())
          else
            if a0_1.length ≤ 4294967296 then
              (g15_10 ((base1, (), (), (), ()), (a0_0, a0_1, ()), [], a0_1, ())).bind fun y =>
                if y.2.1.1 = true then
                  if List.length y.2.2.1 + 1 ≤ 4294967296 then
                    (g15_26
                          (((), 0, IntKind.i64.wrap ((↑(y.2.2.1 ++ [45]).length : Int) - 1), ()), y.2.2.1 ++ [45],
                            ())).bind
                      fun y => some ((List.map (fun n => UInt8.ofNat n.toNat) y.2.1, 0, ()), ())
                  else none
                else
                  (g15_26 (((), 0, IntKind.i64.wrap ((↑(List.length y.2.2.1) : Int) - 1), ()), y.2.2.1, ())).bind fun y =>
                    some ((List.map (fun n => UInt8.ofNat n.toNat) y.2.1, 0, ()), ())
            else none : Option rs15.den) := by kernel_rfl
theorem F66_eq (a0_0 : Bool) (a0_1 : List Int) : F66 ((a0_0, a0_1), ()) = (
  if a0_1.length ≤ 4294967296 then some (((a0_0, a0_1), ()), ()) else none : Option rs66.den) := by kernel_rfl
theorem F17_eq (F66 : (SV.denL ps66) → Option (rs66).den) (a0_0 : Bool) (a0_1 : List Int) : F17 F66 ((a0_0, a0_1), ()) = (
  (F66 ((a0_0, a0_1), ())).bind fun y => some (((y.1.1.1, y.1.1.2), ()), ()) : Option rs17.den) := by kernel_rfl
theorem S67_2_eq (l0 : List Int) (n3 : Int) : S67_2 ((l0, n3, ()), ()) = (
  if decide (n3 > 0) = true then
    if 0 ≤ IntKind.i64.wrap ((IntKind.i64.wrap (n3 - 1)).tdiv 32) then
      if IntKind.i64.wrap ((IntKind.i64.wrap (n3 - 1)).tdiv 32) < (↑l0.length : Int) then
        if (IntKind.i64.wrap (n3 - 1)).tmod 32 < 0 then none
        else
          if
              (bitop BinOp.and IntKind.u32
                    (Int.fdiv (l0.getD (IntKind.i64.wrap ((IntKind.i64.wrap (n3 - 1)).tdiv 32)).toNat 0)
                      (2 ^ min ((IntKind.i64.wrap (n3 - 1)).tmod 32).toNat 32))
                    1 ==
                  0) =
                true then
            some (Sum.inl ((l0, IntKind.i64.wrap (n3 - 1), ()), ()))
          else some (Sum.inr ((n3, ()), ()))
      else none
    else none
  else some (Sum.inr ((n3, ()), ())) : Option (sh67_2.den ⊕ denX w67_2)) := by kernel_rfl
theorem F67_eq (g67_2 : sh67_2.den → Option (denX w67_2)) (l0 : List Int) : F67 g67_2 (l0, ()) = (
  (g67_2 ((l0, IntKind.i64.wrap (32 * (↑l0.length : Int)), ()), ())).bind fun y => some ((y.1.1, ()), ()) : Option rs67.den) := by kernel_rfl
theorem S18_6_eq (ones6 : Int) (i7 : Int) (b0_0 : Bool) (b0_1 : List Int) : S18_6 (((), ones6, i7, ()), ((b0_0, b0_1, ()), ())) = (
  if decide (i7 < IntKind.i64.wrap (32 * (↑b0_1.length : Int))) = true then
    if 0 ≤ IntKind.i64.wrap (i7.tdiv 32) then
      if IntKind.i64.wrap (i7.tdiv 32) < (↑b0_1.length : Int) then
        if i7.tmod 32 < 0 then none
        else
          some
            (Sum.inl
              (((),
                  IntKind.i64.wrap
                    (ones6 +
                      IntKind.i64.wrap
                        (bitop BinOp.and IntKind.u32
                          (Int.fdiv (b0_1.getD (IntKind.i64.wrap (i7.tdiv 32)).toNat 0) (2 ^ min (i7.tmod 32).toNat 32))
                          1)),
                  IntKind.i64.wrap (i7 + 1), ()),
                (b0_0, b0_1, ()), ()))
      else none
    else none
  else some (Sum.inr (((), ones6, ()), (b0_0, b0_1, ()), ())) : Option (sh18_6.den ⊕ denX w18_6)) := by kernel_rfl
theorem F18_eq (F23 : (SV.denL ps23) → Option (rs23).den) (F67 : (SV.denL ps67) → Option (rs67).den) (g18_6 : sh18_6.den → Option (denX w18_6)) (a0_0 : Bool) (a0_1 : List Int) : F18 F23 F67 g18_6 ((a0_0, a0_1), ()) = (
  (F23 ((a0_0, a0_1), ())).bind fun y =>
    if (!y.1.1 == 0) = true then some ((0, 0, y.1.1, ()), ())
    else
      (g18_6 (((), 0, 0, ()), (a0_0, a0_1, ()), ())).bind fun y =>
        (F67 (y.2.1.2.1, ())).bind fun y_1 => some ((y_1.1.1, y.1.2.1, 0, ()), ()) : Option rs18.den) := by kernel_rfl
theorem S20_8_eq (width1 : Int) (v7 : Int) (i8 : Int) (b0_0 : Bool) (b0_1 : List Int) : S20_8 ((width1, (), v7, i8, ()), ((b0_0, b0_1, ()), ())) = (
  if decide (i8 < (↑b0_1.length : Int)) = true then
    if decide (i8 < 2) = true then
      if 0 ≤ i8 then
        if i8 < (↑b0_1.length : Int) then
          if IntKind.i64.wrap (32 * i8) < 0 then none
          else
            some
              (Sum.inl
                ((width1, (),
                    bitop BinOp.or IntKind.u64 v7
                      (IntKind.u64.wrap
                        (IntKind.u64.wrap (b0_1.getD i8.toNat 0) * 2 ^ min (IntKind.i64.wrap (32 * i8)).toNat 64)),
                    IntKind.i64.wrap (i8 + 1), ()),
                  (b0_0, b0_1, ()), ()))
        else none
      else none
    else some (Sum.inr ((width1, (), v7, ()), (b0_0, b0_1, ()), ()))
  else some (Sum.inr ((width1, (), v7, ()), (b0_0, b0_1, ()), ())) : Option (sh20_8.den ⊕ denX w20_8)) := by kernel_rfl
theorem F20_eq (F23 : (SV.denL ps23) → Option (rs23).den) (g20_8 : sh20_8.den → Option (denX w20_8)) (a0_0 : Bool) (a0_1 : List Int) (width1 : Int) : F20 F23 g20_8 ((a0_0, a0_1), width1, ()) = (
  (F23 ((a0_0, a0_1), ())).bind fun y =>
    if (!y.1.1 == 0) = true then some ((0, y.1.1, ()), ())
    else
      if decide (width1 < 1) = true then some ((0, 3, ()), ())
      else
        if decide (width1 > 64) = true then some ((0, 3, ()), ())
        else
          (g20_8 ((width1, (), 0, 0, ()), (a0_0, a0_1, ()), ())).bind fun y =>
            if y.2.1.1 = true then
              if decide (y.1.1 < 64) = true then
                if y.1.1 < 0 then none
                else
                  if IntKind.u64.wrap (1 * 2 ^ min (Int.toNat y.1.1) 64) = 0 then none
                  else
                    some
                      (((IntKind.u64.wrap (0 - y.1.2.2.1)).tmod (IntKind.u64.wrap (1 * 2 ^ min (Int.toNat y.1.1) 64)), 0,
                          ()),
                        ())
              else some ((IntKind.u64.wrap (0 - y.1.2.2.1), 0, ()), ())
            else
              if decide (y.1.1 < 64) = true then
                if y.1.1 < 0 then none
                else
                  if IntKind.u64.wrap (1 * 2 ^ min (Int.toNat y.1.1) 64) = 0 then none
                  else some ((Int.tmod y.1.2.2.1 (IntKind.u64.wrap (1 * 2 ^ min (Int.toNat y.1.1) 64)), 0, ()), ())
              else some ((y.1.2.2.1, 0, ()), ()) : Option rs20.den) := by kernel_rfl
theorem F4_eq (F9 : (SV.denL ps9) → Option (rs9).den) (F14 : (SV.denL ps14) → Option (rs14).den) (F15 : (SV.denL ps15) → Option (rs15).den) (F16 : (SV.denL ps16) → Option (rs16).den) (F17 : (SV.denL ps17) → Option (rs17).den) (F18 : (SV.denL ps18) → Option (rs18).den) (F19 : (SV.denL ps19) → Option (rs19).den) (F20 : (SV.denL ps20) → Option (rs20).den) (F21 : (SV.denL ps21) → Option (rs21).den) (F22 : (SV.denL ps22) → Option (rs22).den) (F23 : (SV.denL ps23) → Option (rs23).den) (a0_0 : Bool) (a0_1 : List Int) (base1 : Int) : F4 F9 F14 F15 F16 F17 F18 F19 F20 F21 F22 F23 ((a0_0, a0_1), base1, ()) = (
  (F14 (30, [(a0_0, a0_1)], ())).bind fun y =>
    if (!y.1.1) = true then (F9 ()).bind fun y => some ((y.1.1, ()), ())
    else
      (F15 ((a0_0, a0_1), base1, ())).bind fun y =>
        (F17 ((a0_0, a0_1), ())).bind fun y_1 =>
          (F16 ((y_1.1.1.1, y_1.1.1.2), base1, ())).bind fun y_2 =>
            (F18 ((a0_0, a0_1), ())).bind fun y_3 =>
              (F17 ((a0_0, a0_1), ())).bind fun y_4 =>
                (F19 ((y_4.1.1.1, y_4.1.1.2), ())).bind fun y_5 =>
                  (F20 ((a0_0, a0_1), base1, ())).bind fun y_6 =>
                    (F17 ((a0_0, a0_1), ())).bind fun y_7 =>
                      (F21 ((y_7.1.1.1, y_7.1.1.2), base1, ())).bind fun y_8 =>
                        (F17 ((a0_0, a0_1), ())).bind fun y_9 =>
                          (F22 ((y_9.1.1.1, y_9.1.1.2), ())).bind fun y_10 =>
                            (F23 ((a0_0, a0_1), ())).bind fun y_11 =>
                              if (y_10.1.1 == y_11.1.1) = true then
                                if (y.1.1 == y_2.1.1) = true then
                                  if (y_2.1.2.1 == y.1.2.1) = true then
                                    if (y_3.1.1 == y_5.1.1) = true then
                                      if (y_3.1.2.1 == y_5.1.2.1) = true then
                                        if (y_5.1.2.2.1 == y_3.1.2.2.1) = true then
                                          if (y_6.1.1 == y_8.1.1) = true then
                                            if (y_8.1.2.1 == y_6.1.2.1) = true then
                                              (F9 ()).bind fun y => some ((y.1.1, ()), ())
                                            else some ((false, ()), ())
                                          else some ((false, ()), ())
                                        else some ((false, ()), ())
                                      else some ((false, ()), ())
                                    else some ((false, ()), ())
                                  else some ((false, ()), ())
                                else some ((false, ()), ())
                              else some ((false, ()), ()) : Option rs4.den) := by kernel_rfl
theorem F73_eq (n0 : Int) : F73 (n0, ()) = (
  if 0 ≤ IntKind.i64.wrap (IntKind.i64.wrap (n0.tdiv 32) + 1) then
    if IntKind.i64.wrap (IntKind.i64.wrap (n0.tdiv 32) + 1) ≤ IntKind.i64.wrap (IntKind.i64.wrap (n0.tdiv 32) + 1) then
      if IntKind.i64.wrap (IntKind.i64.wrap (n0.tdiv 32) + 1) ≤ ((4294967296 : Nat) : Int) then
        if n0.tmod 32 < 0 then none
        else
          if 0 ≤ IntKind.i64.wrap (n0.tdiv 32) then
            if
                IntKind.i64.wrap (n0.tdiv 32) <
                  (↑(List.replicate (IntKind.i64.wrap (IntKind.i64.wrap (n0.tdiv 32) + 1)).toNat (0 : Int)).length : Int) then
              some
                (((List.replicate (IntKind.i64.wrap (IntKind.i64.wrap (n0.tdiv 32) + 1)).toNat 0).set
                      (IntKind.i64.wrap (n0.tdiv 32)).toNat (IntKind.u32.wrap (1 * 2 ^ min (n0.tmod 32).toNat 32)),
                    ()),
                  ())
            else none
          else none
      else none
    else none
  else none : Option rs73.den) := by kernel_rfl
theorem S102_4_eq (a0 : List Int) (b1 : List Int) (borrow6 : Int) (i7 : Int) (r0 : List Int) : S102_4 ((a0, b1, (), borrow6, i7, ()), (r0, ())) = (
  if decide (i7 < (↑a0.length : Int)) = true then
    if 0 ≤ i7 then
      if i7 < (↑a0.length : Int) then
        if decide (i7 < (↑b1.length : Int)) = true then
          if 0 ≤ i7 then
            if i7 < (↑b1.length : Int) then
              if
                  decide
                      (IntKind.i64.wrap
                          (IntKind.i64.wrap (IntKind.i64.wrap (a0.getD i7.toNat 0) - borrow6) -
                            IntKind.i64.wrap (b1.getD i7.toNat 0)) <
                        0) =
                    true then
                if
                    r0.length +
                        [IntKind.u32.wrap
                              (IntKind.i64.wrap
                                (IntKind.i64.wrap
                                    (IntKind.i64.wrap (IntKind.i64.wrap (a0.getD i7.toNat 0) - borrow6) -
                                      IntKind.i64.wrap (b1.getD i7.toNat 0)) +
                                  4294967296))].length ≤
                      4294967296 then
                  some
                    (Sum.inl
                      ((a0, b1, (), 1, IntKind.i64.wrap (i7 + 1), ()),
                        r0 ++
                          [IntKind.u32.wrap
                              (IntKind.i64.wrap
                                (IntKind.i64.wrap
                                    (IntKind.i64.wrap (IntKind.i64.wrap (a0.getD i7.toNat 0) - borrow6) -
                                      IntKind.i64.wrap (b1.getD i7.toNat 0)) +
                                  4294967296))],
                        ()))
                else none
              else
                if
                    r0.length +
                        [IntKind.u32.wrap
                              (IntKind.i64.wrap
                                (IntKind.i64.wrap (IntKind.i64.wrap (a0.getD i7.toNat 0) - borrow6) -
                                  IntKind.i64.wrap (b1.getD i7.toNat 0)))].length ≤
                      4294967296 then
                  some
                    (Sum.inl
                      ((a0, b1, (), 0, IntKind.i64.wrap (i7 + 1), ()),
                        r0 ++
                          [IntKind.u32.wrap
                              (IntKind.i64.wrap
                                (IntKind.i64.wrap (IntKind.i64.wrap (a0.getD i7.toNat 0) - borrow6) -
                                  IntKind.i64.wrap (b1.getD i7.toNat 0)))],
                        ()))
                else none
            else none
          else none
        else
          if decide (IntKind.i64.wrap (IntKind.i64.wrap (a0.getD i7.toNat 0) - borrow6) < 0) = true then
            if
                r0.length +
                    [IntKind.u32.wrap
                          (IntKind.i64.wrap
                            (IntKind.i64.wrap (IntKind.i64.wrap (a0.getD i7.toNat 0) - borrow6) + 4294967296))].length ≤
                  4294967296 then
              some
                (Sum.inl
                  ((a0, b1, (), 1, IntKind.i64.wrap (i7 + 1), ()),
                    r0 ++
                      [IntKind.u32.wrap
                          (IntKind.i64.wrap
                            (IntKind.i64.wrap (IntKind.i64.wrap (a0.getD i7.toNat 0) - borrow6) + 4294967296))],
                    ()))
            else none
          else
            if
                r0.length +
                    [IntKind.u32.wrap (IntKind.i64.wrap (IntKind.i64.wrap (a0.getD i7.toNat 0) - borrow6))].length ≤
                  4294967296 then
              some
                (Sum.inl
                  ((a0, b1, (), 0, IntKind.i64.wrap (i7 + 1), ()),
                    r0 ++ [IntKind.u32.wrap (IntKind.i64.wrap (IntKind.i64.wrap (a0.getD i7.toNat 0) - borrow6))], ()))
            else none
      else none
    else none
  else some (Sum.inr (((), ()), r0, ())) : Option (sh102_4.den ⊕ denX w102_4)) := by kernel_rfl
theorem F102_eq (F50 : (SV.denL ps50) → Option (rs50).den) (g102_4 : sh102_4.den → Option (denX w102_4)) (a0 : List Int) (b1 : List Int) : F102 F50 g102_4 (a0, b1, ()) = (
  (g102_4 ((a0, b1, (), 0, 0, ()), [], ())).bind fun y => (F50 (y.2.1, ())).bind fun y => some ((y.1.1, ()), ()) : Option rs102.den) := by kernel_rfl
theorem S111_3_eq (a0 : List Int) (bit1 : Int) (i6 : Int) (r0 : List Int) : S111_3 ((a0, bit1, (), i6, ()), (r0, ())) = (
  if decide (i6 < (↑a0.length : Int)) = true then
    if 0 ≤ i6 then
      if i6 < (↑a0.length : Int) then
        if
            r0.length + [bitop BinOp.or IntKind.u32 (IntKind.u32.wrap (a0.getD i6.toNat 0 * 2 ^ 1)) bit1].length ≤
              4294967296 then
          if 0 ≤ i6 then
            if i6 < (↑a0.length : Int) then
              some
                (Sum.inl
                  ((a0, Int.fdiv (a0.getD i6.toNat 0) (2 ^ 31), (), IntKind.i64.wrap (i6 + 1), ()),
                    r0 ++ [bitop BinOp.or IntKind.u32 (IntKind.u32.wrap (a0.getD i6.toNat 0 * 2 ^ 1)) bit1], ()))
            else none
          else none
        else none
      else none
    else none
  else some (Sum.inr ((bit1, (), ()), r0, ())) : Option (sh111_3.den ⊕ denX w111_3)) := by kernel_rfl
theorem F111_eq (F50 : (SV.denL ps50) → Option (rs50).den) (g111_3 : sh111_3.den → Option (denX w111_3)) (a0 : List Int) (bit1 : Int) : F111 F50 g111_3 (a0, bit1, ()) = (
  (g111_3 ((a0, bit1, (), 0, ()), [], ())).bind fun y =>
    if List.length y.2.1 + [y.1.1].length ≤ 4294967296 then
      (F50 (y.2.1 ++ [y.1.1], ())).bind fun y => some ((y.1.1, ()), ())
    else none : Option rs111.den) := by kernel_rfl
theorem S91_7_eq (F62 : (SV.denL ps62) → Option (rs62).den) (F102 : (SV.denL ps102) → Option (rs102).den) (F111 : (SV.denL ps111) → Option (rs111).den) (a0 : List Int) (b1 : List Int) (r7 : List Int) (i8 : Int) (k9 : Int) (r0 : List Int) : S91_7 F62 F102 F111 ((a0, b1, (), r7, i8, k9, ()), (r0, ())) = (
  if decide (k9 ≥ 0) = true then
    if 0 ≤ i8 then
      if i8 < (↑a0.length : Int) then
        if k9 < 0 then none
        else
          (F111 (r7, bitop BinOp.and IntKind.u32 (Int.fdiv (a0.getD i8.toNat 0) (2 ^ min k9.toNat 32)) 1, ())).bind
            fun y =>
            (F62 (y.1.1, b1, ())).bind fun y_1 =>
              if decide (y_1.1.1 ≥ 0) = true then
                (F102 (y.1.1, b1, ())).bind fun y =>
                  if 0 ≤ i8 then
                    if i8 < (↑r0.length : Int) then
                      if k9 < 0 then none
                      else
                        if 0 ≤ i8 then
                          if i8 < (↑r0.length : Int) then
                            some
                              (Sum.inl
                                ((a0, b1, (), y.1.1, i8, IntKind.i64.wrap (k9 - 1), ()),
                                  r0.set i8.toNat
                                    (bitop BinOp.or IntKind.u32 (r0.getD i8.toNat 0)
                                      (IntKind.u32.wrap (1 * 2 ^ min k9.toNat 32))),
                                  ()))
                          else none
                        else none
                    else none
                  else none
              else some (Sum.inl ((a0, b1, (), y.1.1, i8, IntKind.i64.wrap (k9 - 1), ()), r0, ()))
      else none
    else none
  else some (Sum.inr ((a0, b1, (), r7, i8, ()), r0, ())) : Option (sh91_7.den ⊕ denX w91_7)) := by kernel_rfl
theorem S91_4_eq (g91_7 : sh91_7.den → Option (denX w91_7)) (a0 : List Int) (b1 : List Int) (r7 : List Int) (i8 : Int) (r0 : List Int) : S91_4 g91_7 ((a0, b1, (), r7, i8, ()), (r0, ())) = (
  if decide (i8 ≥ 0) = true then
    (g91_7 ((a0, b1, (), r7, i8, 31, ()), r0, ())).bind fun y =>
      some (Sum.inl ((y.1.1, y.1.2.1, (), y.1.2.2.2.1, IntKind.i64.wrap (y.1.2.2.2.2.1 - 1), ()), y.2.1, ()))
  else some (Sum.inr (((), r7, ()), r0, ())) : Option (sh91_4.den ⊕ denX w91_4)) := by kernel_rfl
theorem F91_eq (F50 : (SV.denL ps50) → Option (rs50).den) (g91_4 : sh91_4.den → Option (denX w91_4)) (a0 : List Int) (b1 : List Int) : F91 F50 g91_4 (a0, b1, ()) = (
  if (↑a0.length : Int) ≤ (↑a0.length : Int) then
    if (↑a0.length : Int) ≤ ((4294967296 : Nat) : Int) then
      (g91_4
            ((a0, b1, (), [], IntKind.i64.wrap ((↑a0.length : Int) - 1), ()), List.replicate (↑a0.length : Int).toNat 0,
              ())).bind
        fun y => (F50 (y.2.1, ())).bind fun y_1 => some ((y_1.1.1, y.1.2.1, ()), ())
    else none
  else none : Option rs91.den) := by kernel_rfl
theorem F74_eq (F48 : (SV.denL ps48) → Option (rs48).den) (F51 : (SV.denL ps51) → Option (rs51).den) (F91 : (SV.denL ps91) → Option (rs91).den) (F102 : (SV.denL ps102) → Option (rs102).den) (a0_0 : Bool) (a0_1 : List Int) (b1_0 : Bool) (b1_1 : List Int) : F74 F48 F51 F91 F102 ((a0_0, a0_1), (b1_0, b1_1), ()) = (
  (F91 (a0_1, b1_1, ())).bind fun y =>
    if (!a0_0 == b1_0) = true then
      if decide ((↑(List.length y.1.2.1) : Int) > 0) = true then
        (F48 (y.1.1, [1], ())).bind fun y_1 =>
          (F102 (b1_1, y.1.2.1, ())).bind fun y =>
            (F51 (!a0_0 == b1_0, y_1.1.1, ())).bind fun y_2 =>
              (F51 (b1_0, y.1.1, ())).bind fun y => some (((y_2.1.1.1, y_2.1.1.2), (y.1.1.1, y.1.1.2), ()), ())
      else
        (F51 (!a0_0 == b1_0, y.1.1, ())).bind fun y_1 =>
          (F51 (b1_0, y.1.2.1, ())).bind fun y => some (((y_1.1.1.1, y_1.1.1.2), (y.1.1.1, y.1.1.2), ()), ())
    else
      (F51 (!a0_0 == b1_0, y.1.1, ())).bind fun y_1 =>
        (F51 (b1_0, y.1.2.1, ())).bind fun y => some (((y_1.1.1.1, y_1.1.1.2), (y.1.1.1, y.1.1.2), ()), ()) : Option rs74.den) := by kernel_rfl
theorem F24_eq (F23 : (SV.denL ps23) → Option (rs23).den) (F49 : (SV.denL ps49) → Option (rs49).den) (F51 : (SV.denL ps51) → Option (rs51).den) (F73 : (SV.denL ps73) → Option (rs73).den) (F74 : (SV.denL ps74) → Option (rs74).den) (a0_0 : Bool) (a0_1 : List Int) (n1 : Int) : F24 F23 F49 F51 F73 F74 ((a0_0, a0_1), n1, ()) = (
  (F23 ((a0_0, a0_1), ())).bind fun y =>
    if (!y.1.1 == 0) = true then some (((false, []), y.1.1, ()), ())
    else
      if decide (n1 < -10000) = true then some (((false, []), 3, ()), ())
      else
        if decide (n1 > 10000) = true then some (((false, []), 3, ()), ())
        else
          if decide (n1 ≥ 0) = true then
            (F73 (n1, ())).bind fun y =>
              (F49 (a0_1, y.1.1, ())).bind fun y =>
                (F51 (a0_0, y.1.1, ())).bind fun y => some (((y.1.1.1, y.1.1.2), y.1.2.1, ()), ())
          else
            (F73 (IntKind.i64.wrap (0 - n1), ())).bind fun y =>
              (F74 ((a0_0, a0_1), (false, y.1.1), ())).bind fun y => some (((y.1.1.1, y.1.1.2), 0, ()), ()) : Option rs24.den) := by kernel_rfl
theorem S49B_7_eq (a0 : List Int) (b1 : List Int) (i6 : Int) (carry7 : Int) (k8 : Int) (r0 : List Int) : S49B_7 ((a0, b1, (), i6, carry7, k8, ()), (r0, ())) = (
  if decide (k8 < (↑b1.length : Int)) = true then
    if 0 ≤ i6 then
      if i6 < (↑a0.length : Int) then
        if 0 ≤ k8 then
          if k8 < (↑b1.length : Int) then
            if 0 ≤ IntKind.i64.wrap (i6 + k8) then
              if IntKind.i64.wrap (i6 + k8) < (↑r0.length : Int) then
                if 0 ≤ IntKind.i64.wrap (i6 + k8) then
                  if IntKind.i64.wrap (i6 + k8) < (↑r0.length : Int) then
                    some
                      (Sum.inl
                        ((a0, b1, (), i6,
                            IntKind.u64.wrap
                              ((IntKind.u64.wrap
                                    (IntKind.u64.wrap
                                        (carry7 +
                                          IntKind.u64.wrap
                                            (IntKind.u64.wrap (a0.getD i6.toNat 0) *
                                              IntKind.u64.wrap (b1.getD k8.toNat 0))) +
                                      IntKind.u64.wrap (r0.getD (IntKind.i64.wrap (i6 + k8)).toNat 0))).tdiv
                                4294967296),
                            IntKind.i64.wrap (k8 + 1), ()),
                          r0.set (IntKind.i64.wrap (i6 + k8)).toNat
                            (IntKind.u32.wrap
                              ((IntKind.u64.wrap
                                    (IntKind.u64.wrap
                                        (carry7 +
                                          IntKind.u64.wrap
                                            (IntKind.u64.wrap (a0.getD i6.toNat 0) *
                                              IntKind.u64.wrap (b1.getD k8.toNat 0))) +
                                      IntKind.u64.wrap (r0.getD (IntKind.i64.wrap (i6 + k8)).toNat 0))).tmod
                                4294967296)),
                          ()))
                  else none
                else none
              else none
            else none
          else none
        else none
      else none
    else none
  else some (Sum.inr ((a0, b1, (), i6, carry7, ()), r0, ())) : Option (sh49B_7.den ⊕ denX w49B_7)) := by kernel_rfl
theorem S49B_3_eq (g49B_7 : sh49B_7.den → Option (denX w49B_7)) (a0 : List Int) (b1 : List Int) (i6 : Int) (r0 : List Int) : S49B_3 g49B_7 ((a0, b1, (), i6, ()), (r0, ())) = (
  if decide (i6 < (↑a0.length : Int)) = true then
    (g49B_7 ((a0, b1, (), i6, 0, 0, ()), r0, ())).bind fun y =>
      if 0 ≤ IntKind.i64.wrap (y.1.2.2.2.1 + (↑(List.length y.1.2.1) : Int)) then
        if IntKind.i64.wrap (y.1.2.2.2.1 + (↑(List.length y.1.2.1) : Int)) < (↑(List.length y.2.1) : Int) then
          some
            (Sum.inl
              ((y.1.1, y.1.2.1, (), IntKind.i64.wrap (y.1.2.2.2.1 + 1), ()),
                List.set y.2.1 (IntKind.i64.wrap (y.1.2.2.2.1 + (↑(List.length y.1.2.1) : Int))).toNat
                  (IntKind.u32.wrap y.1.2.2.2.2.1),
                ()))
        else none
      else none
  else some (Sum.inr (((), ()), r0, ())) : Option (sh49B_3.den ⊕ denX w49B_3)) := by kernel_rfl
theorem F49B_eq (F50B : (psh50B.den) → Option (rs50B).den) (g49B_3 : sh49B_3.den → Option (denX w49B_3)) (a0 : List Int) (b1 : List Int) : F49B F50B g49B_3 (a0, b1, ()) = (
  if 0 ≤ IntKind.i64.wrap ((↑a0.length : Int) + (↑b1.length : Int)) then
    if
        IntKind.i64.wrap ((↑a0.length : Int) + (↑b1.length : Int)) ≤
          IntKind.i64.wrap ((↑a0.length : Int) + (↑b1.length : Int)) then
      if IntKind.i64.wrap ((↑a0.length : Int) + (↑b1.length : Int)) ≤ ((4294967296 : Nat) : Int) then
        (g49B_3
              ((a0, b1, (), 0, ()), List.replicate (IntKind.i64.wrap ((↑a0.length : Int) + (↑b1.length : Int))).toNat 0,
                ())).bind
          fun y => (F50B (((), ()), y.2.1, ())).bind fun z => some ((z.1.2.1, ()), z.2.1, ())
      else none
    else none
  else none : Option rs49B.den) := by kernel_rfl
theorem S26_8_eq (F49B : (SV.denL ps49B) → Option (rs49B).den) (F50B : (psh50B.den) → Option (rs50B).den) (F62 : (SV.denL ps62) → Option (rs62).den) (i6 : Int) (b0_0 : Bool) (b0_1 : List Int) (b1_0 : Bool) (b1_1 : List Int) (r2 : List Int) : S26_8 F49B F50B F62 (((), (), (), i6, ()), ((b0_0, b0_1, ()), (b1_0, b1_1, ()), r2, ())) = (
  if decide (i6 ≥ 0) = true then
    if decide (IntKind.i64.wrap (i6.tdiv 32) ≥ (↑r2.length : Int)) = true then
      some (Sum.inl (((), (), (), IntKind.i64.wrap (i6 - 1), ()), (b0_0, b0_1, ()), (b1_0, b1_1, ()), r2, ()))
    else
      if 0 ≤ IntKind.i64.wrap (i6.tdiv 32) then
        if IntKind.i64.wrap (i6.tdiv 32) < (↑r2.length : Int) then
          if i6.tmod 32 < 0 then none
          else
            if 0 ≤ IntKind.i64.wrap (i6.tdiv 32) then
              if IntKind.i64.wrap (i6.tdiv 32) < (↑r2.length : Int) then
                (F50B
                      (((), ()),
                        r2.set (IntKind.i64.wrap (i6.tdiv 32)).toNat
                          (bitop BinOp.or IntKind.u32 (r2.getD (IntKind.i64.wrap (i6.tdiv 32)).toNat 0)
                            (IntKind.u32.wrap (1 * 2 ^ min (i6.tmod 32).toNat 32))),
                        ())).bind
                  fun z =>
                  (F49B (List.take z.1.2.1 z.2.1, List.take z.1.2.1 z.2.1, ())).bind fun y =>
                    (F62 (List.take y.1.1 y.2.1, b0_1, ())).bind fun y =>
                      if decide (y.1.1 > 0) = true then
                        if 0 ≤ IntKind.i64.wrap (i6.tdiv 32) then
                          if IntKind.i64.wrap (i6.tdiv 32) < (↑(List.length z.2.1) : Int) then
                            if i6.tmod 32 < 0 then none
                            else
                              if 0 ≤ IntKind.i64.wrap (i6.tdiv 32) then
                                if IntKind.i64.wrap (i6.tdiv 32) < (↑(List.length z.2.1) : Int) then
                                  some
                                    (Sum.inl
                                      (((), (), (), IntKind.i64.wrap (i6 - 1), ()), (b0_0, b0_1, ()), (b1_0, b1_1, ()),
                                        List.set z.2.1 (IntKind.i64.wrap (i6.tdiv 32)).toNat
                                          (bitop BinOp.andNot IntKind.u32
                                            (List.getD z.2.1 (IntKind.i64.wrap (i6.tdiv 32)).toNat 0)
                                            (IntKind.u32.wrap (1 * 2 ^ min (i6.tmod 32).toNat 32))),
                                        ()))
                                else none
                              else none
                          else none
                        else none
                      else
                        some
                          (Sum.inl
                            (((), (), (), IntKind.i64.wrap (i6 - 1), ()), (b0_0, b0_1, ()), (b1_0, b1_1, ()), z.2.1, ()))
              else none
            else none
        else none
      else none
  else some (Sum.inr (((), (), ()), (b1_0, b1_1, ()), r2, ())) : Option (sh26_8.den ⊕ denX w26_8)) := by kernel_rfl
theorem F26_eq (F23 : (SV.denL ps23) → Option (rs23).den) (F51 : (SV.denL ps51) → Option (rs51).den) (F67 : (SV.denL ps67) → Option (rs67).den) (g26_8 : sh26_8.den → Option (denX w26_8)) (a0_0 : Bool) (a0_1 : List Int) : F26 F23 F51 F67 g26_8 ((a0_0, a0_1), ()) = (
  (F23 ((a0_0, a0_1), ())).bind fun y =>
    if (!y.1.1 == 0) = true then some (((false, []), y.1.1, ()), ())
    else
      if a0_0 = true then some (((false, []), 3, ()), ())
      else
        if 0 ≤ IntKind.i64.wrap (IntKind.i64.wrap ((↑a0_1.length : Int).tdiv 2) + 1) then
          if
              IntKind.i64.wrap (IntKind.i64.wrap ((↑a0_1.length : Int).tdiv 2) + 1) ≤
                IntKind.i64.wrap (IntKind.i64.wrap ((↑a0_1.length : Int).tdiv 2) + 1) then
            if IntKind.i64.wrap (IntKind.i64.wrap ((↑a0_1.length : Int).tdiv 2) + 1) ≤ ((4294967296 : Nat) : Int) then
              (F67 (a0_1, ())).bind fun y =>
                (g26_8
                      (((), (), (), IntKind.i64.wrap ((IntKind.i64.wrap (y.1.1 + 1)).tdiv 2), ()), (a0_0, a0_1, ()),
                        (false, [], ()),
                        List.replicate (IntKind.i64.wrap (IntKind.i64.wrap ((↑a0_1.length : Int).tdiv 2) + 1)).toNat 0,
                        ())).bind
                  fun y => (F51 (false, y.2.2.1, ())).bind fun y => some (((y.1.1.1, y.1.1.2), y.1.2.1, ()), ())
            else none
          else none
        else none : Option rs26.den) := by kernel_rfl
theorem F5_eq (F9 : (SV.denL ps9) → Option (rs9).den) (F12 : (SV.denL ps12) → Option (rs12).den) (F13 : (SV.denL ps13) → Option (rs13).den) (F14 : (SV.denL ps14) → Option (rs14).den) (F17 : (SV.denL ps17) → Option (rs17).den) (F24 : (SV.denL ps24) → Option (rs24).den) (F25 : (SV.denL ps25) → Option (rs25).den) (F26 : (SV.denL ps26) → Option (rs26).den) (F27 : (SV.denL ps27) → Option (rs27).den) (a0_0 : Bool) (a0_1 : List Int) (n1 : Int) : F5 F9 F12 F13 F14 F17 F24 F25 F26 F27 ((a0_0, a0_1), n1, ()) = (
  (F14 (30, [(a0_0, a0_1)], ())).bind fun y =>
    if (!y.1.1) = true then (F9 ()).bind fun y => some ((y.1.1, ()), ())
    else
      (F24 ((a0_0, a0_1), n1, ())).bind fun y =>
        (F17 ((a0_0, a0_1), ())).bind fun y_1 =>
          (F25 ((y_1.1.1.1, y_1.1.1.2), n1, ())).bind fun y_2 =>
            (F26 ((a0_0, a0_1), ())).bind fun y_3 =>
              (F17 ((a0_0, a0_1), ())).bind fun y_4 =>
                (F27 ((y_4.1.1.1, y_4.1.1.2), ())).bind fun y_5 =>
                  (F13 ((y_2.1.1.1, y_2.1.1.2), ())).bind fun y_6 =>
                    (F12 ((y.1.1.1, y.1.1.2), (y_6.1.1.1, y_6.1.1.2), ())).bind fun y_7 =>
                      if y_7.1.1 = true then
                        if (y_2.1.2.1 == y.1.2.1) = true then
                          (F13 ((y_5.1.1.1, y_5.1.1.2), ())).bind fun y =>
                            (F12 ((y_3.1.1.1, y_3.1.1.2), (y.1.1.1, y.1.1.2), ())).bind fun y =>
                              if y.1.1 = true then
                                if (y_5.1.2.1 == y_3.1.2.1) = true then (F9 ()).bind fun y => some ((y.1.1, ()), ())
                                else some ((false, ()), ())
                              else some ((false, ()), ())
                        else some ((false, ()), ())
                      else some ((false, ()), ()) : Option rs5.den) := by kernel_rfl
theorem S80_2_eq (F23 : (SV.denL ps23) → Option (rs23).den) (l0 : List (Bool × List Int)) (i3 : Int) : S80_2 F23 ((l0, i3, ()), ()) = (
  if decide (i3 < (↑l0.length : Int)) = true then
    if 0 ≤ i3 then
      if i3 < (↑l0.length : Int) then
        (F23 (((l0.getD i3.toNat (false, [])).1, (l0.getD i3.toNat (false, [])).2), ())).bind fun y =>
          if (!y.1.1 == 0) = true then some (Sum.inr (Sum.inl ((y.1.1, ()), ())))
          else some (Sum.inl ((l0, IntKind.i64.wrap (i3 + 1), ()), ()))
      else none
    else none
  else some (Sum.inr (Sum.inr ((), ()))) : Option (sh80_2.den ⊕ denX w80_2)) := by kernel_rfl
theorem F80_eq (g80_2 : sh80_2.den → Option (denX w80_2)) (l0 : List (Bool × List Int)) : F80 g80_2 (l0, ()) = (
  (g80_2 ((l0, 0, ()), ())).bind fun y => Sum.elim (fun y => some ((y.1.1, ()), ())) (fun z => some ((0, ()), ())) y : Option rs80.den) := by kernel_rfl
theorem F81_eq (a0_0 : Bool) (a0_1 : List Int) : F81 ((a0_0, a0_1), ()) = (
  some (((false, a0_1), ()), ()) : Option rs81.den) := by kernel_rfl
theorem F82_eq (F50 : (SV.denL ps50) → Option (rs50).den) (n0 : Int) : F82 F50 (n0, ()) = (
  (F50 ([IntKind.u32.wrap n0], ())).bind fun y => some (((false, y.1.1), ()), ()) : Option rs82.den) := by kernel_rfl
theorem F84_eq (a0_0 : Bool) (a0_1 : List Int) : F84 ((a0_0, a0_1), ()) = (
  if (!a0_0) = true then some (((decide ((↑a0_1.length : Int) > 0), a0_1), ()), ()) else some (((false, a0_1), ()), ()) : Option rs84.den) := by kernel_rfl
theorem F92_eq (F48 : (SV.denL ps48) → Option (rs48).den) (F62 : (SV.denL ps62) → Option (rs62).den) (F102 : (SV.denL ps102) → Option (rs102).den) (a0_0 : Bool) (a0_1 : List Int) (b1_0 : Bool) (b1_1 : List Int) : F92 F48 F62 F102 ((a0_0, a0_1), (b1_0, b1_1), ()) = (
  if (a0_0 == b1_0) = true then (F48 (a0_1, b1_1, ())).bind fun y => some ((a0_0, y.1.1, ()), ())
  else
    (F62 (a0_1, b1_1, ())).bind fun y =>
      if decide (y.1.1 ≥ 0) = true then (F102 (a0_1, b1_1, ())).bind fun y => some ((a0_0, y.1.1, ()), ())
      else (F102 (b1_1, a0_1, ())).bind fun y => some ((b1_0, y.1.1, ()), ()) : Option rs92.den) := by kernel_rfl
theorem F34_eq (F51 : (SV.denL ps51) → Option (rs51).den) (F80 : (SV.denL ps80) → Option (rs80).den) (F84 : (SV.denL ps84) → Option (rs84).den) (F92 : (SV.denL ps92) → Option (rs92).den) (a0_0 : Bool) (a0_1 : List Int) (b1_0 : Bool) (b1_1 : List Int) : F34 F51 F80 F84 F92 ((a0_0, a0_1), (b1_0, b1_1), ()) = (
  (F80 ([(a0_0, a0_1), (b1_0, b1_1)], ())).bind fun y =>
    if (!y.1.1 == 0) = true then some (((false, []), y.1.1, ()), ())
    else
      (F84 ((b1_0, b1_1), ())).bind fun y =>
        (F92 ((a0_0, a0_1), (y.1.1.1, y.1.1.2), ())).bind fun y =>
          (F51 (y.1.1, y.1.2.1, ())).bind fun y => some (((y.1.1.1, y.1.1.2), y.1.2.1, ()), ()) : Option rs34.den) := by kernel_rfl
theorem F36_eq (F49 : (SV.denL ps49) → Option (rs49).den) (F51 : (SV.denL ps51) → Option (rs51).den) (F80 : (SV.denL ps80) → Option (rs80).den) (a0_0 : Bool) (a0_1 : List Int) (b1_0 : Bool) (b1_1 : List Int) : F36 F49 F51 F80 ((a0_0, a0_1), (b1_0, b1_1), ()) = (
  (F80 ([(a0_0, a0_1), (b1_0, b1_1)], ())).bind fun y =>
    if (!y.1.1 == 0) = true then some (((false, []), y.1.1, ()), ())
    else
      (F49 (a0_1, b1_1, ())).bind fun y =>
        (F51 (!a0_0 == b1_0, y.1.1, ())).bind fun y => some (((y.1.1.1, y.1.1.2), y.1.2.1, ()), ()) : Option rs36.den) := by kernel_rfl
theorem F83_eq (F34 : (SV.denL ps34) → Option (rs34).den) (F36 : (SV.denL ps36) → Option (rs36).den) (a0_0 : Bool) (a0_1 : List Int) (q1_0 : Bool) (q1_1 : List Int) (b2_0 : Bool) (b2_1 : List Int) : F83 F34 F36 ((a0_0, a0_1), (q1_0, q1_1), (b2_0, b2_1), ()) = (
  (F36 ((q1_0, q1_1), (b2_0, b2_1), ())).bind fun y =>
    if (!y.1.2.1 == 0) = true then some (((false, []), y.1.2.1, ()), ())
    else (F34 ((a0_0, a0_1), (y.1.1.1, y.1.1.2), ())).bind fun y => some (((y.1.1.1, y.1.1.2), y.1.2.1, ()), ()) : Option rs83.den) := by kernel_rfl
theorem S28_11_eq (F83 : (SV.denL ps83) → Option (rs83).den) (i15 : Int) (b0_0 : Bool) (b0_1 : List Int) (b1_0 : Bool) (b1_1 : List Int) (b2_0 : Bool) (b2_1 : List Int) (b3_0 : Bool) (b3_1 : List Int) (b3_2 : Bool) (b3_3 : List Int) (b4_0 : Bool) (b4_1 : List Int) (b5_0 : Bool) (b5_1 : List Int) (b6_0 : Bool) (b6_1 : List Int) (b6_2 : Bool) (b6_3 : List Int) (b7_0 : Bool) (b7_1 : List Int) (b7_2 : Bool) (b7_3 : List Int) (b8_0 : Bool) (b8_1 : List Int) (b9_0 : Bool) (b9_1 : List Int) (b9_2 : Bool) (b9_3 : List Int) : S28_11 F83 (((), (), (), (), (), (), (), (), (), (), i15, ()), ((b0_0, b0_1, ()), (b1_0, b1_1, ()), (b2_0, b2_1, ()), (b3_0, b3_1, b3_2, b3_3, ()), (b4_0, b4_1, ()), (b5_0, b5_1, ()), (b6_0, b6_1, b6_2, b6_3, ()), (b7_0, b7_1, b7_2, b7_3, ()), (b8_0, b8_1, ()), (b9_0, b9_1, b9_2, b9_3, ()), ())) = (
  if decide (i15 < 2) = true then
    if i15 = (↑0 : Int) then
      if i15 = (↑0 : Int) then
        (F83 ((b6_0, b6_1), (b8_0, b8_1), (b7_0, b7_1), ())).bind fun y =>
          if (!y.1.2.1 == 0) = true then
            some (Sum.inr (Sum.inl (((), (), y.1.2.1, ()), (false, [], ()), (false, [], false, [], ()), ())))
          else
            if i15 = (↑0 : Int) then
              some
                (Sum.inl
                  (((), (), (), (), (), (), (), (), (), (), IntKind.i64.wrap (i15 + 1), ()), (b0_0, b0_1, ()),
                    (b1_0, b1_1, ()), (b2_0, b2_1, ()), (b3_0, b3_1, b3_2, b3_3, ()), (b4_0, b4_1, ()), (b5_0, b5_1, ()),
                    (b6_0, b6_1, b6_2, b6_3, ()), (b7_0, b7_1, b7_2, b7_3, ()), (b8_0, b8_1, ()),
                    (y.1.1.1, y.1.1.2, b9_2, b9_3, ()), ()))
            else
              if i15 = (↑1 : Int) then
                some
                  (Sum.inl
                    (((), (), (), (), (), (), (), (), (), (), IntKind.i64.wrap (i15 + 1), ()), (b0_0, b0_1, ()),
                      (b1_0, b1_1, ()), (b2_0, b2_1, ()), (b3_0, b3_1, b3_2, b3_3, ()), (b4_0, b4_1, ()),
                      (b5_0, b5_1, ()), (b6_0, b6_1, b6_2, b6_3, ()), (b7_0, b7_1, b7_2, b7_3, ()), (b8_0, b8_1, ()),
                      (b9_0, b9_1, y.1.1.1, y.1.1.2, ()), ()))
              else none
      else
        if i15 = (↑1 : Int) then
          (F83 ((b6_0, b6_1), (b8_0, b8_1), (b7_2, b7_3), ())).bind fun y =>
            if (!y.1.2.1 == 0) = true then
              some (Sum.inr (Sum.inl (((), (), y.1.2.1, ()), (false, [], ()), (false, [], false, [], ()), ())))
            else
              if i15 = (↑0 : Int) then
                some
                  (Sum.inl
                    (((), (), (), (), (), (), (), (), (), (), IntKind.i64.wrap (i15 + 1), ()), (b0_0, b0_1, ()),
                      (b1_0, b1_1, ()), (b2_0, b2_1, ()), (b3_0, b3_1, b3_2, b3_3, ()), (b4_0, b4_1, ()),
                      (b5_0, b5_1, ()), (b6_0, b6_1, b6_2, b6_3, ()), (b7_0, b7_1, b7_2, b7_3, ()), (b8_0, b8_1, ()),
                      (y.1.1.1, y.1.1.2, b9_2, b9_3, ()), ()))
              else
                if i15 = (↑1 : Int) then
                  some
                    (Sum.inl
                      (((), (), (), (), (), (), (), (), (), (), IntKind.i64.wrap (i15 + 1), ()), (b0_0, b0_1, ()),
                        (b1_0, b1_1, ()), (b2_0, b2_1, ()), (b3_0, b3_1, b3_2, b3_3, ()), (b4_0, b4_1, ()),
                        (b5_0, b5_1, ()), (b6_0, b6_1, b6_2, b6_3, ()), (b7_0, b7_1, b7_2, b7_3, ()), (b8_0, b8_1, ()),
                        (b9_0, b9_1, y.1.1.1, y.1.1.2, ()), ()))
                else none
        else none
    else
      if i15 = (↑1 : Int) then
        if i15 = (↑0 : Int) then
          (F83 ((b6_2, b6_3), (b8_0, b8_1), (b7_0, b7_1), ())).bind fun y =>
            if (!y.1.2.1 == 0) = true then
              some (Sum.inr (Sum.inl (((), (), y.1.2.1, ()), (false, [], ()), (false, [], false, [], ()), ())))
            else
              if i15 = (↑0 : Int) then
                some
                  (Sum.inl
                    (((), (), (), (), (), (), (), (), (), (), IntKind.i64.wrap (i15 + 1), ()), (b0_0, b0_1, ()),
                      (b1_0, b1_1, ()), (b2_0, b2_1, ()), (b3_0, b3_1, b3_2, b3_3, ()), (b4_0, b4_1, ()),
                      (b5_0, b5_1, ()), (b6_0, b6_1, b6_2, b6_3, ()), (b7_0, b7_1, b7_2, b7_3, ()), (b8_0, b8_1, ()),
                      (y.1.1.1, y.1.1.2, b9_2, b9_3, ()), ()))
              else
                if i15 = (↑1 : Int) then
                  some
                    (Sum.inl
                      (((), (), (), (), (), (), (), (), (), (), IntKind.i64.wrap (i15 + 1), ()), (b0_0, b0_1, ()),
                        (b1_0, b1_1, ()), (b2_0, b2_1, ()), (b3_0, b3_1, b3_2, b3_3, ()), (b4_0, b4_1, ()),
                        (b5_0, b5_1, ()), (b6_0, b6_1, b6_2, b6_3, ()), (b7_0, b7_1, b7_2, b7_3, ()), (b8_0, b8_1, ()),
                        (b9_0, b9_1, y.1.1.1, y.1.1.2, ()), ()))
                else none
        else
          if i15 = (↑1 : Int) then
            (F83 ((b6_2, b6_3), (b8_0, b8_1), (b7_2, b7_3), ())).bind fun y =>
              if (!y.1.2.1 == 0) = true then
                some (Sum.inr (Sum.inl (((), (), y.1.2.1, ()), (false, [], ()), (false, [], false, [], ()), ())))
              else
                if i15 = (↑0 : Int) then
                  some
                    (Sum.inl
                      (((), (), (), (), (), (), (), (), (), (), IntKind.i64.wrap (i15 + 1), ()), (b0_0, b0_1, ()),
                        (b1_0, b1_1, ()), (b2_0, b2_1, ()), (b3_0, b3_1, b3_2, b3_3, ()), (b4_0, b4_1, ()),
                        (b5_0, b5_1, ()), (b6_0, b6_1, b6_2, b6_3, ()), (b7_0, b7_1, b7_2, b7_3, ()), (b8_0, b8_1, ()),
                        (y.1.1.1, y.1.1.2, b9_2, b9_3, ()), ()))
                else
                  if i15 = (↑1 : Int) then
                    some
                      (Sum.inl
                        (((), (), (), (), (), (), (), (), (), (), IntKind.i64.wrap (i15 + 1), ()), (b0_0, b0_1, ()),
                          (b1_0, b1_1, ()), (b2_0, b2_1, ()), (b3_0, b3_1, b3_2, b3_3, ()), (b4_0, b4_1, ()),
                          (b5_0, b5_1, ()), (b6_0, b6_1, b6_2, b6_3, ()), (b7_0, b7_1, b7_2, b7_3, ()), (b8_0, b8_1, ()),
                          (b9_0, b9_1, y.1.1.1, y.1.1.2, ()), ()))
                  else none
          else none
      else none
  else
    some
      (Sum.inr
        (Sum.inr
          (((), (), (), (), (), (), (), (), (), ()), (b0_0, b0_1, ()), (b1_0, b1_1, ()), (b2_0, b2_1, ()),
            (b3_0, b3_1, b3_2, b3_3, ()), (b4_0, b4_1, ()), (b5_0, b5_1, ()), (b6_0, b6_1, b6_2, b6_3, ()),
            (b7_0, b7_1, b7_2, b7_3, ()), (b9_0, b9_1, b9_2, b9_3, ()), ()))) : Option (sh28_11.den ⊕ denX w28_11)) := by kernel_rfl
theorem S28_6_eq (F74 : (SV.denL ps74) → Option (rs74).den) (g28_11 : sh28_11.den → Option (denX w28_11)) (b0_0 : Bool) (b0_1 : List Int) (b1_0 : Bool) (b1_1 : List Int) (b2_0 : Bool) (b2_1 : List Int) (b3_0 : Bool) (b3_1 : List Int) (b3_2 : Bool) (b3_3 : List Int) (b4_0 : Bool) (b4_1 : List Int) (b5_0 : Bool) (b5_1 : List Int) (b6_0 : Bool) (b6_1 : List Int) (b6_2 : Bool) (b6_3 : List Int) (b7_0 : Bool) (b7_1 : List Int) (b7_2 : Bool) (b7_3 : List Int) : S28_6 F74 g28_11 (((), (), (), (), (), (), (), (), ()), ((b0_0, b0_1, ()), (b1_0, b1_1, ()), (b2_0, b2_1, ()), (b3_0, b3_1, b3_2, b3_3, ()), (b4_0, b4_1, ()), (b5_0, b5_1, ()), (b6_0, b6_1, b6_2, b6_3, ()), (b7_0, b7_1, b7_2, b7_3, ()), ())) = (
  if decide ((↑b5_1.length : Int) > 0) = true then
    (F74 ((b4_0, b4_1), (b5_0, b5_1), ())).bind fun y =>
      (g28_11
            (((), (), (), (), (), (), (), (), (), (), 0, ()), (b0_0, b0_1, ()), (b1_0, b1_1, ()), (b2_0, b2_1, ()),
              (b3_0, b3_1, b3_2, b3_3, ()), (b5_0, b5_1, ()), (y.1.2.1.1, y.1.2.1.2, ()), (b6_0, b6_1, b6_2, b6_3, ()),
              (b7_0, b7_1, b7_2, b7_3, ()), (y.1.1.1, y.1.1.2, ()), (false, [], false, [], ()), ())).bind
        fun y =>
        Sum.elim
          (fun y =>
            some
              (Sum.inr
                (Sum.inl
                  (((), (), y.1.2.2.1, ()), (y.2.1.1, y.2.1.2.1, ()),
                    (y.2.2.1.1, y.2.2.1.2.1, y.2.2.1.2.2.1, y.2.2.1.2.2.2.1, ()), ()))))
          (fun z =>
            some
              (Sum.inl
                (((), (), (), (), (), (), (), (), ()), (z.2.1.1, z.2.1.2.1, ()), (z.2.2.1.1, z.2.2.1.2.1, ()),
                  (z.2.2.2.1.1, z.2.2.2.1.2.1, ()),
                  (z.2.2.2.2.1.1, z.2.2.2.2.1.2.1, z.2.2.2.2.1.2.2.1, z.2.2.2.2.1.2.2.2.1, ()),
                  (z.2.2.2.2.2.1.1, z.2.2.2.2.2.1.2.1, ()), (z.2.2.2.2.2.2.1.1, z.2.2.2.2.2.2.1.2.1, ()),
                  (z.2.2.2.2.2.2.2.2.1.1, z.2.2.2.2.2.2.2.2.1.2.1, z.2.2.2.2.2.2.2.2.1.2.2.1, z.2.2.2.2.2.2.2.2.1.2.2.2.1,
                    ()),
                  (z.2.2.2.2.2.2.2.2.2.1.1, z.2.2.2.2.2.2.2.2.2.1.2.1, z.2.2.2.2.2.2.2.2.2.1.2.2.1,
                    z.2.2.2.2.2.2.2.2.2.1.2.2.2.1, ()),
                  ())))
          y
  else
    some
      (Sum.inr
        (Sum.inr
          (((), (), (), (), (), (), ()), (b0_0, b0_1, ()), (b1_0, b1_1, ()), (b2_0, b2_1, ()),
            (b3_0, b3_1, b3_2, b3_3, ()), (b4_0, b4_1, ()), (b6_0, b6_1, b6_2, b6_3, ()), ()))) : Option (sh28_6.den ⊕ denX w28_6)) := by kernel_rfl
theorem F28_eq (F66 : (SV.denL ps66) → Option (rs66).den) (F80 : (SV.denL ps80) → Option (rs80).den) (F81 : (SV.denL ps81) → Option (rs81).den) (F82 : (SV.denL ps82) → Option (rs82).den) (F84 : (SV.denL ps84) → Option (rs84).den) (g28_6 : sh28_6.den → Option (denX w28_6)) (a0_0 : Bool) (a0_1 : List Int) (b1_0 : Bool) (b1_1 : List Int) : F28 F66 F80 F81 F82 F84 g28_6 ((a0_0, a0_1), (b1_0, b1_1), ()) = (
  (F80 ([(a0_0, a0_1), (b1_0, b1_1)], ())).bind fun y =>
    if (!y.1.1 == 0) = true then some (((false, []), ((false, []), false, []), y.1.1, ()), ())
    else
      (F81 ((a0_0, a0_1), ())).bind fun y =>
        (F81 ((b1_0, b1_1), ())).bind fun y_1 =>
          (F82 (1, ())).bind fun y_2 =>
            (F82 (1, ())).bind fun y_3 =>
              (g28_6
                    (((), (), (), (), (), (), (), (), ()), (a0_0, a0_1, ()), (b1_0, b1_1, ()), (false, [], ()),
                      (false, [], false, [], ()), (y.1.1.1, y.1.1.2, ()), (y_1.1.1.1, y_1.1.1.2, ()),
                      (y_2.1.1.1, y_2.1.1.2, false, [], ()), (false, [], y_3.1.1.1, y_3.1.1.2, ()), ())).bind
                fun y =>
                Sum.elim
                  (fun y =>
                    some
                      (((y.2.1.1, y.2.1.2.1), ((y.2.2.1.1, y.2.2.1.2.1), y.2.2.1.2.2.1, y.2.2.1.2.2.2.1), y.1.2.2.1, ()),
                        ()))
                  (fun z =>
                    if z.2.1.1 = true then
                      (F84 ((z.2.2.2.2.2.2.1.1, z.2.2.2.2.2.2.1.2.1), ())).bind fun y =>
                        if z.2.2.1.1 = true then
                          (F84 ((z.2.2.2.2.2.2.1.2.2.1, z.2.2.2.2.2.2.1.2.2.2.1), ())).bind fun y_4 =>
                            (F66 ((z.2.2.2.2.2.1.1, z.2.2.2.2.2.1.2.1), ())).bind fun y_5 =>
                              (F66 ((y.1.1.1, y.1.1.2), ())).bind fun y =>
                                (F66 ((y_4.1.1.1, y_4.1.1.2), ())).bind fun y_6 =>
                                  some (((y_5.1.1.1, y_5.1.1.2), ((y.1.1.1, y.1.1.2), y_6.1.1.1, y_6.1.1.2), 0, ()), ())
                        else
                          (F66 ((z.2.2.2.2.2.1.1, z.2.2.2.2.2.1.2.1), ())).bind fun y_4 =>
                            (F66 ((y.1.1.1, y.1.1.2), ())).bind fun y =>
                              (F66 ((z.2.2.2.2.2.2.1.2.2.1, z.2.2.2.2.2.2.1.2.2.2.1), ())).bind fun y_5 =>
                                some (((y_4.1.1.1, y_4.1.1.2), ((y.1.1.1, y.1.1.2), y_5.1.1.1, y_5.1.1.2), 0, ()), ())
                    else
                      if z.2.2.1.1 = true then
                        (F84 ((z.2.2.2.2.2.2.1.2.2.1, z.2.2.2.2.2.2.1.2.2.2.1), ())).bind fun y =>
                          (F66 ((z.2.2.2.2.2.1.1, z.2.2.2.2.2.1.2.1), ())).bind fun y_4 =>
                            (F66 ((z.2.2.2.2.2.2.1.1, z.2.2.2.2.2.2.1.2.1), ())).bind fun y_5 =>
                              (F66 ((y.1.1.1, y.1.1.2), ())).bind fun y =>
                                some (((y_4.1.1.1, y_4.1.1.2), ((y_5.1.1.1, y_5.1.1.2), y.1.1.1, y.1.1.2), 0, ()), ())
                      else
                        (F66 ((z.2.2.2.2.2.1.1, z.2.2.2.2.2.1.2.1), ())).bind fun y =>
                          (F66 ((z.2.2.2.2.2.2.1.1, z.2.2.2.2.2.2.1.2.1), ())).bind fun y_4 =>
                            (F66 ((z.2.2.2.2.2.2.1.2.2.1, z.2.2.2.2.2.2.1.2.2.2.1), ())).bind fun y_5 =>
                              some (((y.1.1.1, y.1.1.2), ((y_4.1.1.1, y_4.1.1.2), y_5.1.1.1, y_5.1.1.2), 0, ()), ()))
                  y : Option rs28.den) := by kernel_rfl
theorem S30_13_eq (F49 : (SV.denL ps49) → Option (rs49).den) (F91 : (SV.denL ps91) → Option (rs91).den) (i13 : Int) (b0_0 : Bool) (b0_1 : List Int) (b1_0 : Bool) (b1_1 : List Int) (b2_0 : Bool) (b2_1 : List Int) (b3_0 : Bool) (b3_1 : List Int) (b4_0 : Bool) (b4_1 : List Int) : S30_13 F49 F91 (((), (), (), (), (), i13, ()), ((b0_0, b0_1, ()), (b1_0, b1_1, ()), (b2_0, b2_1, ()), (b3_0, b3_1, ()), (b4_0, b4_1, ()), ())) = (
  if decide (i13 ≥ 0) = true then
    (F49 (b4_1, b4_1, ())).bind fun y =>
      (F91 (y.1.1, b1_1, ())).bind fun y =>
        if 0 ≤ IntKind.i64.wrap (i13.tdiv 32) then
          if IntKind.i64.wrap (i13.tdiv 32) < (↑b0_1.length : Int) then
            if i13.tmod 32 < 0 then none
            else
              if
                  (bitop BinOp.and IntKind.u32
                        (Int.fdiv (b0_1.getD (IntKind.i64.wrap (i13.tdiv 32)).toNat 0) (2 ^ min (i13.tmod 32).toNat 32))
                        1 ==
                      1) =
                    true then
                (F49 (y.1.2.1, b3_1, ())).bind fun y =>
                  (F91 (y.1.1, b1_1, ())).bind fun y =>
                    some
                      (Sum.inl
                        (((), (), (), (), (), IntKind.i64.wrap (i13 - 1), ()), (b0_0, b0_1, ()), (b1_0, b1_1, ()),
                          (b2_0, b2_1, ()), (b3_0, b3_1, ()), (false, y.1.2.1, ()), ()))
              else
                some
                  (Sum.inl
                    (((), (), (), (), (), IntKind.i64.wrap (i13 - 1), ()), (b0_0, b0_1, ()), (b1_0, b1_1, ()),
                      (b2_0, b2_1, ()), (b3_0, b3_1, ()), (false, y.1.2.1, ()), ()))
          else none
        else none
  else some (Sum.inr (((), (), ()), (b2_0, b2_1, ()), (b4_0, b4_1, ()), ())) : Option (sh30_13.den ⊕ denX w30_13)) := by kernel_rfl
theorem F30_eq (F66 : (SV.denL ps66) → Option (rs66).den) (F74 : (SV.denL ps74) → Option (rs74).den) (F80 : (SV.denL ps80) → Option (rs80).den) (F82 : (SV.denL ps82) → Option (rs82).den) (g30_13 : sh30_13.den → Option (denX w30_13)) (a0_0 : Bool) (a0_1 : List Int) (n1_0 : Bool) (n1_1 : List Int) (m2_0 : Bool) (m2_1 : List Int) : F30 F66 F74 F80 F82 g30_13 ((a0_0, a0_1), (n1_0, n1_1), (m2_0, m2_1), ()) = (
  (F80 ([(a0_0, a0_1), (n1_0, n1_1), (m2_0, m2_1)], ())).bind fun y =>
    if (!y.1.1 == 0) = true then some (((false, []), y.1.1, ()), ())
    else
      if n1_0 = true then some (((false, []), 3, ()), ())
      else
        if m2_0 = true then some (((false, []), 34, ()), ())
        else
          if ((↑m2_1.length : Int) == 0) = true then some (((false, []), 34, ()), ())
          else
            if decide ((↑n1_1.length : Int) > 8) = true then some (((false, []), 4, ()), ())
            else
              (F74 ((a0_0, a0_1), (m2_0, m2_1), ())).bind fun y =>
                (F82 (1, ())).bind fun y_1 =>
                  (F74 ((y_1.1.1.1, y_1.1.1.2), (m2_0, m2_1), ())).bind fun y_2 =>
                    (g30_13
                          (((), (), (), (), (), IntKind.i64.wrap (IntKind.i64.wrap (32 * (↑n1_1.length : Int)) - 1), ()),
                            (n1_0, n1_1, ()), (m2_0, m2_1, ()), (false, [], ()), (y.1.2.1.1, y.1.2.1.2, ()),
                            (y_2.1.2.1.1, y_2.1.2.1.2, ()), ())).bind
                      fun y => (F66 ((y.2.2.1.1, y.2.2.1.2.1), ())).bind fun y => some (((y.1.1.1, y.1.1.2), 0, ()), ()) : Option rs30.den) := by kernel_rfl
theorem F6_eq (F9 : (SV.denL ps9) → Option (rs9).den) (F12 : (SV.denL ps12) → Option (rs12).den) (F13 : (SV.denL ps13) → Option (rs13).den) (F14 : (SV.denL ps14) → Option (rs14).den) (F17 : (SV.denL ps17) → Option (rs17).den) (F28 : (SV.denL ps28) → Option (rs28).den) (F29 : (SV.denL ps29) → Option (rs29).den) (F30 : (SV.denL ps30) → Option (rs30).den) (F31 : (SV.denL ps31) → Option (rs31).den) (a0_0 : Bool) (a0_1 : List Int) (b1_0 : Bool) (b1_1 : List Int) (c2_0 : Bool) (c2_1 : List Int) : F6 F9 F12 F13 F14 F17 F28 F29 F30 F31 ((a0_0, a0_1), (b1_0, b1_1), (c2_0, c2_1), ()) = (
  (F14 (9, [(a0_0, a0_1), (b1_0, b1_1), (c2_0, c2_1)], ())).bind fun y =>
    if (!y.1.1) = true then (F9 ()).bind fun y => some ((y.1.1, ()), ())
    else
      (F28 ((a0_0, a0_1), (b1_0, b1_1), ())).bind fun y =>
        (F17 ((a0_0, a0_1), ())).bind fun y_1 =>
          (F17 ((b1_0, b1_1), ())).bind fun y_2 =>
            (F29 ((y_1.1.1.1, y_1.1.1.2), (y_2.1.1.1, y_2.1.1.2), ())).bind fun y_3 =>
              (F30 ((a0_0, a0_1), (b1_0, b1_1), (c2_0, c2_1), ())).bind fun y_4 =>
                (F17 ((a0_0, a0_1), ())).bind fun y_5 =>
                  (F17 ((b1_0, b1_1), ())).bind fun y_6 =>
                    (F17 ((c2_0, c2_1), ())).bind fun y_7 =>
                      (F31 ((y_5.1.1.1, y_5.1.1.2), (y_6.1.1.1, y_6.1.1.2), (y_7.1.1.1, y_7.1.1.2), ())).bind fun y_8 =>
                        (F13 ((y_3.1.1.1, y_3.1.1.2), ())).bind fun y_9 =>
                          (F12 ((y.1.1.1, y.1.1.2), (y_9.1.1.1, y_9.1.1.2), ())).bind fun y_10 =>
                            if y_10.1.1 = true then
                              (F13 ((y_3.1.2.1.1.1, y_3.1.2.1.1.2), ())).bind fun y_11 =>
                                (F12 ((y.1.2.1.1.1, y.1.2.1.1.2), (y_11.1.1.1, y_11.1.1.2), ())).bind fun y_12 =>
                                  if y_12.1.1 = true then
                                    (F13 ((y_3.1.2.1.2.1, y_3.1.2.1.2.2), ())).bind fun y_13 =>
                                      (F12 ((y.1.2.1.2.1, y.1.2.1.2.2), (y_13.1.1.1, y_13.1.1.2), ())).bind fun y_14 =>
                                        if y_14.1.1 = true then
                                          if (y_3.1.2.2.1 == y.1.2.2.1) = true then
                                            (F13 ((y_8.1.1.1, y_8.1.1.2), ())).bind fun y =>
                                              (F12 ((y_4.1.1.1, y_4.1.1.2), (y.1.1.1, y.1.1.2), ())).bind fun y =>
                                                if y.1.1 = true then
                                                  if (y_8.1.2.1 == y_4.1.2.1) = true then
                                                    (F9 ()).bind fun y => some ((y.1.1, ()), ())
                                                  else some ((false, ()), ())
                                                else some ((false, ()), ())
                                          else some ((false, ()), ())
                                        else some ((false, ()), ())
                                  else some ((false, ()), ())
                            else some ((false, ()), ()) : Option rs6.den) := by kernel_rfl
theorem F32_eq (F51 : (SV.denL ps51) → Option (rs51).den) (F80 : (SV.denL ps80) → Option (rs80).den) (F92 : (SV.denL ps92) → Option (rs92).den) (a0_0 : Bool) (a0_1 : List Int) (b1_0 : Bool) (b1_1 : List Int) : F32 F51 F80 F92 ((a0_0, a0_1), (b1_0, b1_1), ()) = (
  (F80 ([(a0_0, a0_1), (b1_0, b1_1)], ())).bind fun y =>
    if (!y.1.1 == 0) = true then some (((false, []), y.1.1, ()), ())
    else
      (F92 ((a0_0, a0_1), (b1_0, b1_1), ())).bind fun y =>
        (F51 (y.1.1, y.1.2.1, ())).bind fun y => some (((y.1.1.1, y.1.1.2), y.1.2.1, ()), ()) : Option rs32.den) := by kernel_rfl
theorem F33_eq (F75 : (SV.denL ps75) → Option (rs75).den) (F85 : (SV.denL ps85) → Option (rs85).den) (F87 : (SV.denL ps87) → Option (rs87).den) (a0_0 : Bool) (a0_1 : List Int) (b1_0 : Bool) (b1_1 : List Int) : F33 F75 F85 F87 ((a0_0, a0_1), (b1_0, b1_1), ()) = (
  (F85 ([(a0_0, a0_1), (b1_0, b1_1)], ())).bind fun y =>
    if (!y.1.1 == 0) = true then some (((false, []), y.1.1, ()), ())
    else
      (F87 ((a0_0, a0_1), (b1_0, b1_1), ())).bind fun y =>
        (F75 ((y.1.1.1, y.1.1.2), ())).bind fun y => some (((y.1.1.1, y.1.1.2), y.1.2.1, ()), ()) : Option rs33.den) := by kernel_rfl
theorem F35_eq (F75 : (SV.denL ps75) → Option (rs75).den) (F85 : (SV.denL ps85) → Option (rs85).den) (F87 : (SV.denL ps87) → Option (rs87).den) (F88 : (SV.denL ps88) → Option (rs88).den) (a0_0 : Bool) (a0_1 : List Int) (b1_0 : Bool) (b1_1 : List Int) : F35 F75 F85 F87 F88 ((a0_0, a0_1), (b1_0, b1_1), ()) = (
  (F85 ([(a0_0, a0_1), (b1_0, b1_1)], ())).bind fun y =>
    if (!y.1.1 == 0) = true then some (((false, []), y.1.1, ()), ())
    else
      (F88 ((b1_0, b1_1), ())).bind fun y =>
        (F87 ((a0_0, a0_1), (y.1.1.1, y.1.1.2), ())).bind fun y =>
          (F75 ((y.1.1.1, y.1.1.2), ())).bind fun y => some (((y.1.1.1, y.1.1.2), y.1.2.1, ()), ()) : Option rs35.den) := by kernel_rfl
theorem F37_eq (F75 : (SV.denL ps75) → Option (rs75).den) (F85 : (SV.denL ps85) → Option (rs85).den) (F89 : (SV.denL ps89) → Option (rs89).den) (a0_0 : Bool) (a0_1 : List Int) (b1_0 : Bool) (b1_1 : List Int) : F37 F75 F85 F89 ((a0_0, a0_1), (b1_0, b1_1), ()) = (
  (F85 ([(a0_0, a0_1), (b1_0, b1_1)], ())).bind fun y =>
    if (!y.1.1 == 0) = true then some (((false, []), y.1.1, ()), ())
    else
      (F89 ((a0_0, a0_1), (b1_0, b1_1), ())).bind fun y =>
        (F75 ((y.1.1.1, y.1.1.2), ())).bind fun y => some (((y.1.1.1, y.1.1.2), y.1.2.1, ()), ()) : Option rs37.den) := by kernel_rfl
theorem F38_eq (F74 : (SV.denL ps74) → Option (rs74).den) (F80 : (SV.denL ps80) → Option (rs80).den) (a0_0 : Bool) (a0_1 : List Int) (b1_0 : Bool) (b1_1 : List Int) : F38 F74 F80 ((a0_0, a0_1), (b1_0, b1_1), ()) = (
  (F80 ([(a0_0, a0_1), (b1_0, b1_1)], ())).bind fun y =>
    if (!y.1.1 == 0) = true then some (((false, []), (false, []), y.1.1, ()), ())
    else
      if ((↑b1_1.length : Int) == 0) = true then some (((false, []), (false, []), 34, ()), ())
      else
        (F74 ((a0_0, a0_1), (b1_0, b1_1), ())).bind fun y =>
          some (((y.1.1.1, y.1.1.2), (y.1.2.1.1, y.1.2.1.2), 0, ()), ()) : Option rs38.den) := by kernel_rfl
theorem F93_eq (F62 : (SV.denL ps62) → Option (rs62).den) (a0_0 : Bool) (a0_1 : List Int) (b1_0 : Bool) (b1_1 : List Int) : F93 F62 ((a0_0, a0_1), (b1_0, b1_1), ()) = (
  if (!a0_0 == b1_0) = true then if a0_0 = true then some ((-1, ()), ()) else some ((1, ()), ())
  else
    if a0_0 = true then (F62 (b1_1, a0_1, ())).bind fun y => some ((y.1.1, ()), ())
    else (F62 (a0_1, b1_1, ())).bind fun y => some ((y.1.1, ()), ()) : Option rs93.den) := by kernel_rfl
theorem F40_eq (F80 : (SV.denL ps80) → Option (rs80).den) (F93 : (SV.denL ps93) → Option (rs93).den) (a0_0 : Bool) (a0_1 : List Int) (b1_0 : Bool) (b1_1 : List Int) : F40 F80 F93 ((a0_0, a0_1), (b1_0, b1_1), ()) = (
  (F80 ([(a0_0, a0_1), (b1_0, b1_1)], ())).bind fun y =>
    if (!y.1.1 == 0) = true then some ((0, y.1.1, ()), ())
    else (F93 ((a0_0, a0_1), (b1_0, b1_1), ())).bind fun y => some ((y.1.1, 0, ()), ()) : Option rs40.den) := by kernel_rfl
theorem F41_eq (F85 : (SV.denL ps85) → Option (rs85).den) (F87 : (SV.denL ps87) → Option (rs87).den) (F88 : (SV.denL ps88) → Option (rs88).den) (a0_0 : Bool) (a0_1 : List Int) (b1_0 : Bool) (b1_1 : List Int) : F41 F85 F87 F88 ((a0_0, a0_1), (b1_0, b1_1), ()) = (
  (F85 ([(a0_0, a0_1), (b1_0, b1_1)], ())).bind fun y =>
    if (!y.1.1 == 0) = true then some ((0, y.1.1, ()), ())
    else
      (F88 ((b1_0, b1_1), ())).bind fun y =>
        (F87 ((a0_0, a0_1), (y.1.1.1, y.1.1.2), ())).bind fun y =>
          if ((↑(List.length y.1.1.2) : Int) == 0) = true then some ((0, 0, ()), ())
          else if y.1.1.1 = true then some ((-1, 0, ()), ()) else some ((1, 0, ()), ()) : Option rs41.den) := by kernel_rfl
theorem F7_eq (F9 : (SV.denL ps9) → Option (rs9).den) (F12 : (SV.denL ps12) → Option (rs12).den) (F13 : (SV.denL ps13) → Option (rs13).den) (F14 : (SV.denL ps14) → Option (rs14).den) (F17 : (SV.denL ps17) → Option (rs17).den) (F32 : (SV.denL ps32) → Option (rs32).den) (F33 : (SV.denL ps33) → Option (rs33).den) (F34 : (SV.denL ps34) → Option (rs34).den) (F35 : (SV.denL ps35) → Option (rs35).den) (F36 : (SV.denL ps36) → Option (rs36).den) (F37 : (SV.denL ps37) → Option (rs37).den) (F38 : (SV.denL ps38) → Option (rs38).den) (F39 : (SV.denL ps39) → Option (rs39).den) (F40 : (SV.denL ps40) → Option (rs40).den) (F41 : (SV.denL ps41) → Option (rs41).den) (a0_0 : Bool) (a0_1 : List Int) (b1_0 : Bool) (b1_1 : List Int) : F7 F9 F12 F13 F14 F17 F32 F33 F34 F35 F36 F37 F38 F39 F40 F41 ((a0_0, a0_1), (b1_0, b1_1), ()) = (
  (F14 (30, [(a0_0, a0_1), (b1_0, b1_1)], ())).bind fun y =>
    if (!y.1.1) = true then
      if ((↑a0_1.length : Int) == 200) = true then
        if (!decide ((↑b1_1.length : Int) ≤ 1)) = true then
          if decide ((↑a0_1.length : Int) ≤ 1) = true then
            if (!(↑b1_1.length : Int) == 200) = true then (F9 ()).bind fun y => some ((y.1.1, ()), ())
            else
              (F32 ((a0_0, a0_1), (b1_0, b1_1), ())).bind fun y =>
                (F17 ((a0_0, a0_1), ())).bind fun y_1 =>
                  (F17 ((b1_0, b1_1), ())).bind fun y_2 =>
                    (F33 ((y_1.1.1.1, y_1.1.1.2), (y_2.1.1.1, y_2.1.1.2), ())).bind fun y_3 =>
                      (F34 ((a0_0, a0_1), (b1_0, b1_1), ())).bind fun y_4 =>
                        (F17 ((a0_0, a0_1), ())).bind fun y_5 =>
                          (F17 ((b1_0, b1_1), ())).bind fun y_6 =>
                            (F35 ((y_5.1.1.1, y_5.1.1.2), (y_6.1.1.1, y_6.1.1.2), ())).bind fun y_7 =>
                              (F36 ((a0_0, a0_1), (b1_0, b1_1), ())).bind fun y_8 =>
                                (F17 ((a0_0, a0_1), ())).bind fun y_9 =>
                                  (F17 ((b1_0, b1_1), ())).bind fun y_10 =>
                                    (F37 ((y_9.1.1.1, y_9.1.1.2), (y_10.1.1.1, y_10.1.1.2), ())).bind fun y_11 =>
                                      (F38 ((a0_0, a0_1), (b1_0, b1_1), ())).bind fun y_12 =>
                                        (F17 ((a0_0, a0_1), ())).bind fun y_13 =>
                                          (F17 ((b1_0, b1_1), ())).bind fun y_14 =>
                                            (F39 ((y_13.1.1.1, y_13.1.1.2), (y_14.1.1.1, y_14.1.1.2), ())).bind
                                              fun y_15 =>
                                              (F40 ((a0_0, a0_1), (b1_0, b1_1), ())).bind fun y_16 =>
                                                (F17 ((a0_0, a0_1), ())).bind fun y_17 =>
                                                  (F17 ((b1_0, b1_1), ())).bind fun y_18 =>
                                                    (F41 ((y_17.1.1.1, y_17.1.1.2), (y_18.1.1.1, y_18.1.1.2), ())).bind
                                                      fun y_19 =>
                                                      (F13 ((y_3.1.1.1, y_3.1.1.2), ())).bind fun y_20 =>
                                                        (F12 ((y.1.1.1, y.1.1.2), (y_20.1.1.1, y_20.1.1.2), ())).bind
                                                          fun y_21 =>
                                                          if y_21.1.1 = true then
                                                            if (y_3.1.2.1 == y.1.2.1) = true then
                                                              (F13 ((y_7.1.1.1, y_7.1.1.2), ())).bind fun y =>
                                                                (F12
                                                                      ((y_4.1.1.1, y_4.1.1.2), (y.1.1.1, y.1.1.2),
                                                                        ())).bind
                                                                  fun y =>
                                                                  if y.1.1 = true then
                                                                    if (y_7.1.2.1 == y_4.1.2.1) = true then
                                                                      (F13 ((y_11.1.1.1, y_11.1.1.2), ())).bind fun y =>
                                                                        (F12
                                                                              ((y_8.1.1.1, y_8.1.1.2), (y.1.1.1, y.1.1.2),
                                                                                ())).bind
                                                                          fun y =>
                                                                          if y.1.1 = true then
                                                                            if (y_11.1.2.1 == y_8.1.2.1) = true then
                                                                              (F13 ((y_15.1.1.1, y_15.1.1.2), ())).bind
                                                                                fun y =>
                                                                                (F12
                                                                                      ((y_12.1.1.1, y_12.1.1.2),
                                                                                        (y.1.1.1, y.1.1.2), ())).bind
                                                                                  fun y =>
                                                                                  if y.1.1 = true then
                                                                                    (F13
                                                                                          ((y_15.1.2.1.1, y_15.1.2.1.2),
                                                                                            ())).bind
                                                                                      fun y =>
                                                                                      (F12
                                                                                            ((y_12.1.2.1.1, y_12.1.2.1.2),
                                                                                              (y.1.1.1, y.1.1.2),
                                                                                              ())).bind
                                                                                        fun y =>
                                                                                        if y.1.1 = true then
                                                                                          if
                                                                                              (y_15.1.2.2.1 ==
                                                                                                  y_12.1.2.2.1) =
                                                                                                true then
                                                                                            if
                                                                                                (y_16.1.1 == y_19.1.1) =
                                                                                                  true then
                                                                                              if
                                                                                                  (y_19.1.2.1 ==
                                                                                                      y_16.1.2.1) =
                                                                                                    true then
                                                                                                (F9 ()).bind fun y =>
                                                                                                  some ((y.1.1, ()), ())
                                                                                              else some ((false, ()), ())
                                                                                            else some ((false, ()), ())
                                                                                          else some ((false, ()), ())
                                                                                        else some ((false, ()), ())
                                                                                  else some ((false, ()), ())
                                                                            else some ((false, ()), ())
                                                                          else some ((false, ()), ())
                                                                    else some ((false, ()), ())
                                                                  else some ((false, ()), ())
                                                            else some ((false, ()), ())
                                                          else some ((false, ()), ())
          else (F9 ()).bind fun y => some ((y.1.1, ()), ())
        else
          (F32 ((a0_0, a0_1), (b1_0, b1_1), ())).bind fun y =>
            (F17 ((a0_0, a0_1), ())).bind fun y_1 =>
              (F17 ((b1_0, b1_1), ())).bind fun y_2 =>
                (F33 ((y_1.1.1.1, y_1.1.1.2), (y_2.1.1.1, y_2.1.1.2), ())).bind fun y_3 =>
                  (F34 ((a0_0, a0_1), (b1_0, b1_1), ())).bind fun y_4 =>
                    (F17 ((a0_0, a0_1), ())).bind fun y_5 =>
                      (F17 ((b1_0, b1_1), ())).bind fun y_6 =>
                        (F35 ((y_5.1.1.1, y_5.1.1.2), (y_6.1.1.1, y_6.1.1.2), ())).bind fun y_7 =>
                          (F36 ((a0_0, a0_1), (b1_0, b1_1), ())).bind fun y_8 =>
                            (F17 ((a0_0, a0_1), ())).bind fun y_9 =>
                              (F17 ((b1_0, b1_1), ())).bind fun y_10 =>
                                (F37 ((y_9.1.1.1, y_9.1.1.2), (y_10.1.1.1, y_10.1.1.2), ())).bind fun y_11 =>
                                  (F38 ((a0_0, a0_1), (b1_0, b1_1), ())).bind fun y_12 =>
                                    (F17 ((a0_0, a0_1), ())).bind fun y_13 =>
                                      (F17 ((b1_0, b1_1), ())).bind fun y_14 =>
                                        (F39 ((y_13.1.1.1, y_13.1.1.2), (y_14.1.1.1, y_14.1.1.2), ())).bind fun y_15 =>
                                          (F40 ((a0_0, a0_1), (b1_0, b1_1), ())).bind fun y_16 =>
                                            (F17 ((a0_0, a0_1), ())).bind fun y_17 =>
                                              (F17 ((b1_0, b1_1), ())).bind fun y_18 =>
                                                (F41 ((y_17.1.1.1, y_17.1.1.2), (y_18.1.1.1, y_18.1.1.2), ())).bind
                                                  fun y_19 =>
                                                  (F13 ((y_3.1.1.1, y_3.1.1.2), ())).bind fun y_20 =>
                                                    (F12 ((y.1.1.1, y.1.1.2), (y_20.1.1.1, y_20.1.1.2), ())).bind
                                                      fun y_21 =>
                                                      if y_21.1.1 = true then
                                                        if (y_3.1.2.1 == y.1.2.1) = true then
                                                          (F13 ((y_7.1.1.1, y_7.1.1.2), ())).bind fun y =>
                                                            (F12 ((y_4.1.1.1, y_4.1.1.2), (y.1.1.1, y.1.1.2), ())).bind
                                                              fun y =>
                                                              if y.1.1 = true then
                                                                if (y_7.1.2.1 == y_4.1.2.1) = true then
                                                                  (F13 ((y_11.1.1.1, y_11.1.1.2), ())).bind fun y =>
                                                                    (F12
                                                                          ((y_8.1.1.1, y_8.1.1.2), (y.1.1.1, y.1.1.2),
                                                                            ())).bind
                                                                      fun y =>
                                                                      if y.1.1 = true then
                                                                        if (y_11.1.2.1 == y_8.1.2.1) = true then
                                                                          (F13 ((y_15.1.1.1, y_15.1.1.2), ())).bind
                                                                            fun y =>
                                                                            (F12
                                                                                  ((y_12.1.1.1, y_12.1.1.2),
                                                                                    (y.1.1.1, y.1.1.2), ())).bind
                                                                              fun y =>
                                                                              if y.1.1 = true then
                                                                                (F13
                                                                                      ((y_15.1.2.1.1, y_15.1.2.1.2),
                                                                                        ())).bind
                                                                                  fun y =>
                                                                                  (F12
                                                                                        ((y_12.1.2.1.1, y_12.1.2.1.2),
                                                                                          (y.1.1.1, y.1.1.2), ())).bind
                                                                                    fun y =>
                                                                                    if y.1.1 = true then
                                                                                      if
                                                                                          (y_15.1.2.2.1 == y_12.1.2.2.1) =
                                                                                            true then
                                                                                        if
                                                                                            (y_16.1.1 == y_19.1.1) =
                                                                                              true then
                                                                                          if
                                                                                              (y_19.1.2.1 == y_16.1.2.1) =
                                                                                                true then
                                                                                            (F9 ()).bind fun y =>
                                                                                              some ((y.1.1, ()), ())
                                                                                          else some ((false, ()), ())
                                                                                        else some ((false, ()), ())
                                                                                      else some ((false, ()), ())
                                                                                    else some ((false, ()), ())
                                                                              else some ((false, ()), ())
                                                                        else some ((false, ()), ())
                                                                      else some ((false, ()), ())
                                                                else some ((false, ()), ())
                                                              else some ((false, ()), ())
                                                        else some ((false, ()), ())
                                                      else some ((false, ()), ())
      else
        if decide ((↑a0_1.length : Int) ≤ 1) = true then
          if (!(↑b1_1.length : Int) == 200) = true then (F9 ()).bind fun y => some ((y.1.1, ()), ())
          else
            (F32 ((a0_0, a0_1), (b1_0, b1_1), ())).bind fun y =>
              (F17 ((a0_0, a0_1), ())).bind fun y_1 =>
                (F17 ((b1_0, b1_1), ())).bind fun y_2 =>
                  (F33 ((y_1.1.1.1, y_1.1.1.2), (y_2.1.1.1, y_2.1.1.2), ())).bind fun y_3 =>
                    (F34 ((a0_0, a0_1), (b1_0, b1_1), ())).bind fun y_4 =>
                      (F17 ((a0_0, a0_1), ())).bind fun y_5 =>
                        (F17 ((b1_0, b1_1), ())).bind fun y_6 =>
                          (F35 ((y_5.1.1.1, y_5.1.1.2), (y_6.1.1.1, y_6.1.1.2), ())).bind fun y_7 =>
                            (F36 ((a0_0, a0_1), (b1_0, b1_1), ())).bind fun y_8 =>
                              (F17 ((a0_0, a0_1), ())).bind fun y_9 =>
                                (F17 ((b1_0, b1_1), ())).bind fun y_10 =>
                                  (F37 ((y_9.1.1.1, y_9.1.1.2), (y_10.1.1.1, y_10.1.1.2), ())).bind fun y_11 =>
                                    (F38 ((a0_0, a0_1), (b1_0, b1_1), ())).bind fun y_12 =>
                                      (F17 ((a0_0, a0_1), ())).bind fun y_13 =>
                                        (F17 ((b1_0, b1_1), ())).bind fun y_14 =>
                                          (F39 ((y_13.1.1.1, y_13.1.1.2), (y_14.1.1.1, y_14.1.1.2), ())).bind fun y_15 =>
                                            (F40 ((a0_0, a0_1), (b1_0, b1_1), ())).bind fun y_16 =>
                                              (F17 ((a0_0, a0_1), ())).bind fun y_17 =>
                                                (F17 ((b1_0, b1_1), ())).bind fun y_18 =>
                                                  (F41 ((y_17.1.1.1, y_17.1.1.2), (y_18.1.1.1, y_18.1.1.2), ())).bind
                                                    fun y_19 =>
                                                    (F13 ((y_3.1.1.1, y_3.1.1.2), ())).bind fun y_20 =>
                                                      (F12 ((y.1.1.1, y.1.1.2), (y_20.1.1.1, y_20.1.1.2), ())).bind
                                                        fun y_21 =>
                                                        if y_21.1.1 = true then
                                                          if (y_3.1.2.1 == y.1.2.1) = true then
                                                            (F13 ((y_7.1.1.1, y_7.1.1.2), ())).bind fun y =>
                                                              (F12 ((y_4.1.1.1, y_4.1.1.2), (y.1.1.1, y.1.1.2), ())).bind
                                                                fun y =>
                                                                if y.1.1 = true then
                                                                  if (y_7.1.2.1 == y_4.1.2.1) = true then
                                                                    (F13 ((y_11.1.1.1, y_11.1.1.2), ())).bind fun y =>
                                                                      (F12
                                                                            ((y_8.1.1.1, y_8.1.1.2), (y.1.1.1, y.1.1.2),
                                                                              ())).bind
                                                                        fun y =>
                                                                        if y.1.1 = true then
                                                                          if (y_11.1.2.1 == y_8.1.2.1) = true then
                                                                            (F13 ((y_15.1.1.1, y_15.1.1.2), ())).bind
                                                                              fun y =>
                                                                              (F12
                                                                                    ((y_12.1.1.1, y_12.1.1.2),
                                                                                      (y.1.1.1, y.1.1.2), ())).bind
                                                                                fun y =>
                                                                                if y.1.1 = true then
                                                                                  (F13
                                                                                        ((y_15.1.2.1.1, y_15.1.2.1.2),
                                                                                          ())).bind
                                                                                    fun y =>
                                                                                    (F12
                                                                                          ((y_12.1.2.1.1, y_12.1.2.1.2),
                                                                                            (y.1.1.1, y.1.1.2), ())).bind
                                                                                      fun y =>
                                                                                      if y.1.1 = true then
                                                                                        if
                                                                                            (y_15.1.2.2.1 ==
                                                                                                y_12.1.2.2.1) =
                                                                                              true then
                                                                                          if
                                                                                              (y_16.1.1 == y_19.1.1) =
                                                                                                true then
                                                                                            if
                                                                                                (y_19.1.2.1 ==
                                                                                                    y_16.1.2.1) =
                                                                                                  true then
                                                                                              (F9 ()).bind fun y =>
                                                                                                some ((y.1.1, ()), ())
                                                                                            else some ((false, ()), ())
                                                                                          else some ((false, ()), ())
                                                                                        else some ((false, ()), ())
                                                                                      else some ((false, ()), ())
                                                                                else some ((false, ()), ())
                                                                          else some ((false, ()), ())
                                                                        else some ((false, ()), ())
                                                                  else some ((false, ()), ())
                                                                else some ((false, ()), ())
                                                          else some ((false, ()), ())
                                                        else some ((false, ()), ())
        else (F9 ()).bind fun y => some ((y.1.1, ()), ())
    else
      (F32 ((a0_0, a0_1), (b1_0, b1_1), ())).bind fun y =>
        (F17 ((a0_0, a0_1), ())).bind fun y_1 =>
          (F17 ((b1_0, b1_1), ())).bind fun y_2 =>
            (F33 ((y_1.1.1.1, y_1.1.1.2), (y_2.1.1.1, y_2.1.1.2), ())).bind fun y_3 =>
              (F34 ((a0_0, a0_1), (b1_0, b1_1), ())).bind fun y_4 =>
                (F17 ((a0_0, a0_1), ())).bind fun y_5 =>
                  (F17 ((b1_0, b1_1), ())).bind fun y_6 =>
                    (F35 ((y_5.1.1.1, y_5.1.1.2), (y_6.1.1.1, y_6.1.1.2), ())).bind fun y_7 =>
                      (F36 ((a0_0, a0_1), (b1_0, b1_1), ())).bind fun y_8 =>
                        (F17 ((a0_0, a0_1), ())).bind fun y_9 =>
                          (F17 ((b1_0, b1_1), ())).bind fun y_10 =>
                            (F37 ((y_9.1.1.1, y_9.1.1.2), (y_10.1.1.1, y_10.1.1.2), ())).bind fun y_11 =>
                              (F38 ((a0_0, a0_1), (b1_0, b1_1), ())).bind fun y_12 =>
                                (F17 ((a0_0, a0_1), ())).bind fun y_13 =>
                                  (F17 ((b1_0, b1_1), ())).bind fun y_14 =>
                                    (F39 ((y_13.1.1.1, y_13.1.1.2), (y_14.1.1.1, y_14.1.1.2), ())).bind fun y_15 =>
                                      (F40 ((a0_0, a0_1), (b1_0, b1_1), ())).bind fun y_16 =>
                                        (F17 ((a0_0, a0_1), ())).bind fun y_17 =>
                                          (F17 ((b1_0, b1_1), ())).bind fun y_18 =>
                                            (F41 ((y_17.1.1.1, y_17.1.1.2), (y_18.1.1.1, y_18.1.1.2), ())).bind
                                              fun y_19 =>
                                              (F13 ((y_3.1.1.1, y_3.1.1.2), ())).bind fun y_20 =>
                                                (F12 ((y.1.1.1, y.1.1.2), (y_20.1.1.1, y_20.1.1.2), ())).bind fun y_21 =>
                                                  if y_21.1.1 = true then
                                                    if (y_3.1.2.1 == y.1.2.1) = true then
                                                      (F13 ((y_7.1.1.1, y_7.1.1.2), ())).bind fun y =>
                                                        (F12 ((y_4.1.1.1, y_4.1.1.2), (y.1.1.1, y.1.1.2), ())).bind
                                                          fun y =>
                                                          if y.1.1 = true then
                                                            if (y_7.1.2.1 == y_4.1.2.1) = true then
                                                              (F13 ((y_11.1.1.1, y_11.1.1.2), ())).bind fun y =>
                                                                (F12
                                                                      ((y_8.1.1.1, y_8.1.1.2), (y.1.1.1, y.1.1.2),
                                                                        ())).bind
                                                                  fun y =>
                                                                  if y.1.1 = true then
                                                                    if (y_11.1.2.1 == y_8.1.2.1) = true then
                                                                      (F13 ((y_15.1.1.1, y_15.1.1.2), ())).bind fun y =>
                                                                        (F12
                                                                              ((y_12.1.1.1, y_12.1.1.2),
                                                                                (y.1.1.1, y.1.1.2), ())).bind
                                                                          fun y =>
                                                                          if y.1.1 = true then
                                                                            (F13 ((y_15.1.2.1.1, y_15.1.2.1.2), ())).bind
                                                                              fun y =>
                                                                              (F12
                                                                                    ((y_12.1.2.1.1, y_12.1.2.1.2),
                                                                                      (y.1.1.1, y.1.1.2), ())).bind
                                                                                fun y =>
                                                                                if y.1.1 = true then
                                                                                  if
                                                                                      (y_15.1.2.2.1 == y_12.1.2.2.1) =
                                                                                        true then
                                                                                    if (y_16.1.1 == y_19.1.1) = true then
                                                                                      if
                                                                                          (y_19.1.2.1 == y_16.1.2.1) =
                                                                                            true then
                                                                                        (F9 ()).bind fun y =>
                                                                                          some ((y.1.1, ()), ())
                                                                                      else some ((false, ()), ())
                                                                                    else some ((false, ()), ())
                                                                                  else some ((false, ()), ())
                                                                                else some ((false, ()), ())
                                                                          else some ((false, ()), ())
                                                                    else some ((false, ()), ())
                                                                  else some ((false, ()), ())
                                                            else some ((false, ()), ())
                                                          else some ((false, ()), ())
                                                    else some ((false, ()), ())
                                                  else some ((false, ()), ()) : Option rs7.den) := by kernel_rfl
theorem F42_eq (F12 : (SV.denL ps12) → Option (rs12).den) (F13 : (SV.denL ps13) → Option (rs13).den) (F17 : (SV.denL ps17) → Option (rs17).den) (F33 : (SV.denL ps33) → Option (rs33).den) (F35 : (SV.denL ps35) → Option (rs35).den) (F37 : (SV.denL ps37) → Option (rs37).den) (a0_0 : Bool) (a0_1 : List Int) (b1_0 : Bool) (b1_1 : List Int) (c2_0 : Bool) (c2_1 : List Int) : F42 F12 F13 F17 F33 F35 F37 ((a0_0, a0_1), (b1_0, b1_1), (c2_0, c2_1), ()) = (
  (F17 ((a0_0, a0_1), ())).bind fun y =>
    (F17 ((b1_0, b1_1), ())).bind fun y_1 =>
      (F33 ((y.1.1.1, y.1.1.2), (y_1.1.1.1, y_1.1.1.2), ())).bind fun y =>
        (F17 ((b1_0, b1_1), ())).bind fun y_2 =>
          (F17 ((a0_0, a0_1), ())).bind fun y_3 =>
            (F33 ((y_2.1.1.1, y_2.1.1.2), (y_3.1.1.1, y_3.1.1.2), ())).bind fun y_4 =>
              (F17 ((a0_0, a0_1), ())).bind fun y_5 =>
                (F17 ((b1_0, b1_1), ())).bind fun y_6 =>
                  (F37 ((y_5.1.1.1, y_5.1.1.2), (y_6.1.1.1, y_6.1.1.2), ())).bind fun y_7 =>
                    (F17 ((b1_0, b1_1), ())).bind fun y_8 =>
                      (F17 ((a0_0, a0_1), ())).bind fun y_9 =>
                        (F37 ((y_8.1.1.1, y_8.1.1.2), (y_9.1.1.1, y_9.1.1.2), ())).bind fun y_10 =>
                          (F17 ((c2_0, c2_1), ())).bind fun y_11 =>
                            (F37 ((y.1.1.1, y.1.1.2), (y_11.1.1.1, y_11.1.1.2), ())).bind fun y_12 =>
                              (F17 ((a0_0, a0_1), ())).bind fun y_13 =>
                                (F17 ((c2_0, c2_1), ())).bind fun y_14 =>
                                  (F37 ((y_13.1.1.1, y_13.1.1.2), (y_14.1.1.1, y_14.1.1.2), ())).bind fun y_15 =>
                                    (F17 ((b1_0, b1_1), ())).bind fun y_16 =>
                                      (F17 ((c2_0, c2_1), ())).bind fun y_17 =>
                                        (F37 ((y_16.1.1.1, y_16.1.1.2), (y_17.1.1.1, y_17.1.1.2), ())).bind fun y_18 =>
                                          (F33 ((y_15.1.1.1, y_15.1.1.2), (y_18.1.1.1, y_18.1.1.2), ())).bind fun y_19 =>
                                            (F17 ((c2_0, c2_1), ())).bind fun y_20 =>
                                              (F37 ((y_7.1.1.1, y_7.1.1.2), (y_20.1.1.1, y_20.1.1.2), ())).bind
                                                fun y_21 =>
                                                (F17 ((a0_0, a0_1), ())).bind fun y_22 =>
                                                  (F37 ((y_22.1.1.1, y_22.1.1.2), (y_18.1.1.1, y_18.1.1.2), ())).bind
                                                    fun y_23 =>
                                                    (F17 ((b1_0, b1_1), ())).bind fun y_24 =>
                                                      (F35 ((y.1.1.1, y.1.1.2), (y_24.1.1.1, y_24.1.1.2), ())).bind
                                                        fun y_25 =>
                                                        if
                                                            (IntKind.i64.wrap
                                                                  (IntKind.i64.wrap
                                                                      (IntKind.i64.wrap
                                                                          (IntKind.i64.wrap
                                                                              (IntKind.i64.wrap
                                                                                  (IntKind.i64.wrap
                                                                                      (IntKind.i64.wrap
                                                                                          (IntKind.i64.wrap
                                                                                              (IntKind.i64.wrap
                                                                                                  (IntKind.i64.wrap
                                                                                                      (y.1.2.1 +
                                                                                                        y_4.1.2.1) +
                                                                                                    y_7.1.2.1) +
                                                                                                y_10.1.2.1) +
                                                                                            y_12.1.2.1) +
                                                                                        y_15.1.2.1) +
                                                                                    y_18.1.2.1) +
                                                                                y_19.1.2.1) +
                                                                            y_21.1.2.1) +
                                                                        y_23.1.2.1) +
                                                                    y_25.1.2.1) ==
                                                                0) =
                                                              true then
                                                          (F13 ((y.1.1.1, y.1.1.2), ())).bind fun y =>
                                                            (F13 ((y_4.1.1.1, y_4.1.1.2), ())).bind fun y_26 =>
                                                              (F12
                                                                    ((y.1.1.1, y.1.1.2), (y_26.1.1.1, y_26.1.1.2),
                                                                      ())).bind
                                                                fun y =>
                                                                if y.1.1 = true then
                                                                  (F13 ((y_7.1.1.1, y_7.1.1.2), ())).bind fun y =>
                                                                    (F13 ((y_10.1.1.1, y_10.1.1.2), ())).bind fun y_27 =>
                                                                      (F12
                                                                            ((y.1.1.1, y.1.1.2), (y_27.1.1.1, y_27.1.1.2),
                                                                              ())).bind
                                                                        fun y =>
                                                                        if y.1.1 = true then
                                                                          (F13 ((y_12.1.1.1, y_12.1.1.2), ())).bind
                                                                            fun y =>
                                                                            (F13 ((y_19.1.1.1, y_19.1.1.2), ())).bind
                                                                              fun y_28 =>
                                                                              (F12
                                                                                    ((y.1.1.1, y.1.1.2),
                                                                                      (y_28.1.1.1, y_28.1.1.2), ())).bind
                                                                                fun y =>
                                                                                if y.1.1 = true then
                                                                                  (F13
                                                                                        ((y_21.1.1.1, y_21.1.1.2),
                                                                                          ())).bind
                                                                                    fun y =>
                                                                                    (F13
                                                                                          ((y_23.1.1.1, y_23.1.1.2),
                                                                                            ())).bind
                                                                                      fun y_29 =>
                                                                                      (F12
                                                                                            ((y.1.1.1, y.1.1.2),
                                                                                              (y_29.1.1.1, y_29.1.1.2),
                                                                                              ())).bind
                                                                                        fun y =>
                                                                                        if y.1.1 = true then
                                                                                          (F13
                                                                                                ((y_25.1.1.1, y_25.1.1.2),
                                                                                                  ())).bind
                                                                                            fun y =>
                                                                                            (F12
                                                                                                  ((y.1.1.1, y.1.1.2),
                                                                                                    (a0_0, a0_1),
                                                                                                    ())).bind
                                                                                              fun y =>
                                                                                              some ((y.1.1, ()), ())
                                                                                        else some ((false, ()), ())
                                                                                else some ((false, ()), ())
                                                                        else some ((false, ()), ())
                                                                else some ((false, ()), ())
                                                        else some ((false, ()), ()) : Option rs42.den) := by kernel_rfl
theorem F43_eq (F12 : (SV.denL ps12) → Option (rs12).den) (F13 : (SV.denL ps13) → Option (rs13).den) (F17 : (SV.denL ps17) → Option (rs17).den) (F29 : (SV.denL ps29) → Option (rs29).den) (F33 : (SV.denL ps33) → Option (rs33).den) (F37 : (SV.denL ps37) → Option (rs37).den) (F39 : (SV.denL ps39) → Option (rs39).den) (a0_0 : Bool) (a0_1 : List Int) (b1_0 : Bool) (b1_1 : List Int) : F43 F12 F13 F17 F29 F33 F37 F39 ((a0_0, a0_1), (b1_0, b1_1), ()) = (
  (F17 ((a0_0, a0_1), ())).bind fun y =>
    (F17 ((b1_0, b1_1), ())).bind fun y_1 =>
      (F29 ((y.1.1.1, y.1.1.2), (y_1.1.1.1, y_1.1.1.2), ())).bind fun y =>
        if (!y.1.2.2.1 == 0) = true then some ((false, ()), ())
        else
          if y.1.1.1 = true then some ((false, ()), ())
          else
            (F17 ((a0_0, a0_1), ())).bind fun y_2 =>
              (F37 ((y.1.2.1.1.1, y.1.2.1.1.2), (y_2.1.1.1, y_2.1.1.2), ())).bind fun y_3 =>
                (F17 ((b1_0, b1_1), ())).bind fun y_4 =>
                  (F37 ((y.1.2.1.2.1, y.1.2.1.2.2), (y_4.1.1.1, y_4.1.1.2), ())).bind fun y_5 =>
                    (F33 ((y_3.1.1.1, y_3.1.1.2), (y_5.1.1.1, y_5.1.1.2), ())).bind fun y_6 =>
                      if (!IntKind.i64.wrap (IntKind.i64.wrap (y_3.1.2.1 + y_5.1.2.1) + y_6.1.2.1) == 0) = true then
                        some ((false, ()), ())
                      else
                        (F13 ((y_6.1.1.1, y_6.1.1.2), ())).bind fun y_7 =>
                          (F13 ((y.1.1.1, y.1.1.2), ())).bind fun y_8 =>
                            (F12 ((y_7.1.1.1, y_7.1.1.2), (y_8.1.1.1, y_8.1.1.2), ())).bind fun y_9 =>
                              if (!y_9.1.1) = true then some ((false, ()), ())
                              else
                                if ((↑(List.length y.1.1.2) : Int) == 0) = true then
                                  if ((↑a0_1.length : Int) == 0) = true then some (((↑b1_1.length : Int) == 0, ()), ())
                                  else some ((false, ()), ())
                                else
                                  (F17 ((a0_0, a0_1), ())).bind fun y_10 =>
                                    (F39 ((y_10.1.1.1, y_10.1.1.2), (y.1.1.1, y.1.1.2), ())).bind fun y_11 =>
                                      (F17 ((b1_0, b1_1), ())).bind fun y_12 =>
                                        (F39 ((y_12.1.1.1, y_12.1.1.2), (y.1.1.1, y.1.1.2), ())).bind fun y =>
                                          if (IntKind.i64.wrap (y_11.1.2.2.1 + y.1.2.2.1) == 0) = true then
                                            if ((↑(List.length y_11.1.2.1.2) : Int) == 0) = true then
                                              some (((↑(List.length y.1.2.1.2) : Int) == 0, ()), ())
                                            else some ((false, ()), ())
                                          else some ((false, ()), ()) : Option rs43.den) := by kernel_rfl
theorem F44_eq (F12 : (SV.denL ps12) → Option (rs12).den) (F13 : (SV.denL ps13) → Option (rs13).den) (F17 : (SV.denL ps17) → Option (rs17).den) (F31 : (SV.denL ps31) → Option (rs31).den) (F33 : (SV.denL ps33) → Option (rs33).den) (F37 : (SV.denL ps37) → Option (rs37).den) (F39 : (SV.denL ps39) → Option (rs39).den) (F45 : (SV.denL ps45) → Option (rs45).den) (a0_0 : Bool) (a0_1 : List Int) (b1_0 : Bool) (b1_1 : List Int) (c2_0 : Bool) (c2_1 : List Int) : F44 F12 F13 F17 F31 F33 F37 F39 F45 ((a0_0, a0_1), (b1_0, b1_1), (c2_0, c2_1), ()) = (
  if b1_0 = true then some ((true, ()), ())
  else
    if c2_0 = true then some ((true, ()), ())
    else
      if ((↑c2_1.length : Int) == 0) = true then some ((true, ()), ())
      else
        if decide ((↑b1_1.length : Int) > 7) = true then some ((true, ()), ())
        else
          (F17 ((b1_0, b1_1), ())).bind fun y =>
            (F45 (1, ())).bind fun y_1 =>
              (F33 ((y.1.1.1, y.1.1.2), (y_1.1.1.1, y_1.1.1.2), ())).bind fun y =>
                (F17 ((a0_0, a0_1), ())).bind fun y_2 =>
                  (F17 ((b1_0, b1_1), ())).bind fun y_3 =>
                    (F17 ((c2_0, c2_1), ())).bind fun y_4 =>
                      (F31 ((y_2.1.1.1, y_2.1.1.2), (y_3.1.1.1, y_3.1.1.2), (y_4.1.1.1, y_4.1.1.2), ())).bind fun y_5 =>
                        (F17 ((a0_0, a0_1), ())).bind fun y_6 =>
                          (F17 ((c2_0, c2_1), ())).bind fun y_7 =>
                            (F31 ((y_6.1.1.1, y_6.1.1.2), (y.1.1.1, y.1.1.2), (y_7.1.1.1, y_7.1.1.2), ())).bind fun y_8 =>
                              (F17 ((a0_0, a0_1), ())).bind fun y_9 =>
                                (F37 ((y_5.1.1.1, y_5.1.1.2), (y_9.1.1.1, y_9.1.1.2), ())).bind fun y_10 =>
                                  (F17 ((c2_0, c2_1), ())).bind fun y_11 =>
                                    (F39 ((y_10.1.1.1, y_10.1.1.2), (y_11.1.1.1, y_11.1.1.2), ())).bind fun y_12 =>
                                      if
                                          (IntKind.i64.wrap
                                                (IntKind.i64.wrap
                                                    (IntKind.i64.wrap
                                                        (IntKind.i64.wrap (y.1.2.1 + y_5.1.2.1) + y_8.1.2.1) +
                                                      y_10.1.2.1) +
                                                  y_12.1.2.2.1) ==
                                              0) =
                                            true then
                                        (F13 ((y_8.1.1.1, y_8.1.1.2), ())).bind fun y =>
                                          (F13 ((y_12.1.2.1.1, y_12.1.2.1.2), ())).bind fun y_13 =>
                                            (F12 ((y.1.1.1, y.1.1.2), (y_13.1.1.1, y_13.1.1.2), ())).bind fun y =>
                                              some ((y.1.1, ()), ())
                                      else some ((false, ()), ()) : Option rs44.den) := by kernel_rfl
theorem F8_eq (F9 : (SV.denL ps9) → Option (rs9).den) (F11 : (SV.denL ps11) → Option (rs11).den) (F12 : (SV.denL ps12) → Option (rs12).den) (F13 : (SV.denL ps13) → Option (rs13).den) (F14 : (SV.denL ps14) → Option (rs14).den) (F16 : (SV.denL ps16) → Option (rs16).den) (F17 : (SV.denL ps17) → Option (rs17).den) (F23 : (SV.denL ps23) → Option (rs23).den) (F33 : (SV.denL ps33) → Option (rs33).den) (F37 : (SV.denL ps37) → Option (rs37).den) (F39 : (SV.denL ps39) → Option (rs39).den) (F41 : (SV.denL ps41) → Option (rs41).den) (F42 : (SV.denL ps42) → Option (rs42).den) (F43 : (SV.denL ps43) → Option (rs43).den) (F44 : (SV.denL ps44) → Option (rs44).den) (a0_0 : Bool) (a0_1 : List Int) (b1_0 : Bool) (b1_1 : List Int) (c2_0 : Bool) (c2_1 : List Int) : F8 F9 F11 F12 F13 F14 F16 F17 F23 F33 F37 F39 F41 F42 F43 F44 ((a0_0, a0_1), (b1_0, b1_1), (c2_0, c2_1), ()) = (
  (F14 (9, [(a0_0, a0_1), (b1_0, b1_1), (c2_0, c2_1)], ())).bind fun y =>
    if (!y.1.1) = true then (F9 ()).bind fun y => some ((y.1.1, ()), ())
    else
      (F23 ((a0_0, a0_1), ())).bind fun y =>
        if (!y.1.1 == 0) = true then (F9 ()).bind fun y => some ((y.1.1, ()), ())
        else
          (F23 ((b1_0, b1_1), ())).bind fun y =>
            if (!y.1.1 == 0) = true then (F9 ()).bind fun y => some ((y.1.1, ()), ())
            else
              (F23 ((c2_0, c2_1), ())).bind fun y =>
                if (!y.1.1 == 0) = true then (F9 ()).bind fun y => some ((y.1.1, ()), ())
                else
                  if decide ((↑c2_1.length : Int) > 0) = true then
                    if 0 < (↑c2_1.length : Int) then
                      (F17 ((a0_0, a0_1), ())).bind fun y =>
                        (F16
                              ((y.1.1.1, y.1.1.2), IntKind.i64.wrap (2 + IntKind.i64.wrap (Int.tmod (c2_1.getD 0 0) 35)),
                                ())).bind
                          fun y =>
                          (F11 (y.1.1, IntKind.i64.wrap (2 + IntKind.i64.wrap (Int.tmod (c2_1.getD 0 0) 35)), ())).bind
                            fun y_1 =>
                            if (!IntKind.i64.wrap (y.1.2.1 + y_1.1.2.1) == 0) = true then some ((false, ()), ())
                            else
                              (F13 ((y_1.1.1.1, y_1.1.1.2), ())).bind fun y =>
                                (F12 ((y.1.1.1, y.1.1.2), (a0_0, a0_1), ())).bind fun y =>
                                  if (!y.1.1) = true then some ((false, ()), ())
                                  else
                                    (F42 ((a0_0, a0_1), (b1_0, b1_1), (c2_0, c2_1), ())).bind fun y =>
                                      if (!y.1.1) = true then some ((false, ()), ())
                                      else
                                        if decide ((↑b1_1.length : Int) > 0) = true then
                                          (F17 ((a0_0, a0_1), ())).bind fun y =>
                                            (F17 ((b1_0, b1_1), ())).bind fun y_2 =>
                                              (F39 ((y.1.1.1, y.1.1.2), (y_2.1.1.1, y_2.1.1.2), ())).bind fun y =>
                                                (F17 ((b1_0, b1_1), ())).bind fun y_3 =>
                                                  (F37 ((y.1.1.1, y.1.1.2), (y_3.1.1.1, y_3.1.1.2), ())).bind fun y_4 =>
                                                    (F33 ((y_4.1.1.1, y_4.1.1.2), (y.1.2.1.1, y.1.2.1.2), ())).bind
                                                      fun y_5 =>
                                                      if
                                                          (!IntKind.i64.wrap
                                                                  (IntKind.i64.wrap (y.1.2.2.1 + y_4.1.2.1) +
                                                                    y_5.1.2.1) ==
                                                                0) =
                                                            true then
                                                        some ((false, ()), ())
                                                      else
                                                        (F13 ((y_5.1.1.1, y_5.1.1.2), ())).bind fun y_6 =>
                                                          (F12 ((y_6.1.1.1, y_6.1.1.2), (a0_0, a0_1), ())).bind fun y_7 =>
                                                            if (!y_7.1.1) = true then some ((false, ()), ())
                                                            else
                                                              if decide ((↑(List.length y.1.2.1.2) : Int) > 0) = true then
                                                                if (!y.1.2.1.1 == b1_0) = true then some ((false, ()), ())
                                                                else
                                                                  (F41 ((false, y.1.2.1.2), (false, b1_1), ())).bind
                                                                    fun y =>
                                                                    if (!y.1.2.1 == 0) = true then some ((false, ()), ())
                                                                    else
                                                                      if decide (y.1.1 ≥ 0) = true then
                                                                        some ((false, ()), ())
                                                                      else
                                                                        (F43 ((a0_0, a0_1), (b1_0, b1_1), ())).bind
                                                                          fun y =>
                                                                          if y.1.1 = true then
                                                                            (F44
                                                                                  ((a0_0, a0_1), (b1_0, b1_1),
                                                                                    (c2_0, c2_1), ())).bind
                                                                              fun y =>
                                                                              if y.1.1 = true then
                                                                                (F9 ()).bind fun y =>
                                                                                  some ((y.1.1, ()), ())
                                                                              else some ((false, ()), ())
                                                                          else some ((false, ()), ())
                                                              else
                                                                (F41 ((false, y.1.2.1.2), (false, b1_1), ())).bind
                                                                  fun y =>
                                                                  if (!y.1.2.1 == 0) = true then some ((false, ()), ())
                                                                  else
                                                                    if decide (y.1.1 ≥ 0) = true then
                                                                      some ((false, ()), ())
                                                                    else
                                                                      (F43 ((a0_0, a0_1), (b1_0, b1_1), ())).bind fun y =>
                                                                        if y.1.1 = true then
                                                                          (F44
                                                                                ((a0_0, a0_1), (b1_0, b1_1), (c2_0, c2_1),
                                                                                  ())).bind
                                                                            fun y =>
                                                                            if y.1.1 = true then
                                                                              (F9 ()).bind fun y => some ((y.1.1, ()), ())
                                                                            else some ((false, ()), ())
                                                                        else some ((false, ()), ())
                                        else
                                          (F43 ((a0_0, a0_1), (b1_0, b1_1), ())).bind fun y =>
                                            if y.1.1 = true then
                                              (F44 ((a0_0, a0_1), (b1_0, b1_1), (c2_0, c2_1), ())).bind fun y =>
                                                if y.1.1 = true then (F9 ()).bind fun y => some ((y.1.1, ()), ())
                                                else some ((false, ()), ())
                                            else some ((false, ()), ())
                    else none
                  else
                    (F17 ((a0_0, a0_1), ())).bind fun y =>
                      (F16 ((y.1.1.1, y.1.1.2), 2, ())).bind fun y =>
                        (F11 (y.1.1, 2, ())).bind fun y_1 =>
                          if (!IntKind.i64.wrap (y.1.2.1 + y_1.1.2.1) == 0) = true then some ((false, ()), ())
                          else
                            (F13 ((y_1.1.1.1, y_1.1.1.2), ())).bind fun y =>
                              (F12 ((y.1.1.1, y.1.1.2), (a0_0, a0_1), ())).bind fun y =>
                                if (!y.1.1) = true then some ((false, ()), ())
                                else
                                  (F42 ((a0_0, a0_1), (b1_0, b1_1), (c2_0, c2_1), ())).bind fun y =>
                                    if (!y.1.1) = true then some ((false, ()), ())
                                    else
                                      if decide ((↑b1_1.length : Int) > 0) = true then
                                        (F17 ((a0_0, a0_1), ())).bind fun y =>
                                          (F17 ((b1_0, b1_1), ())).bind fun y_2 =>
                                            (F39 ((y.1.1.1, y.1.1.2), (y_2.1.1.1, y_2.1.1.2), ())).bind fun y =>
                                              (F17 ((b1_0, b1_1), ())).bind fun y_3 =>
                                                (F37 ((y.1.1.1, y.1.1.2), (y_3.1.1.1, y_3.1.1.2), ())).bind fun y_4 =>
                                                  (F33 ((y_4.1.1.1, y_4.1.1.2), (y.1.2.1.1, y.1.2.1.2), ())).bind
                                                    fun y_5 =>
                                                    if
                                                        (!IntKind.i64.wrap
                                                                (IntKind.i64.wrap (y.1.2.2.1 + y_4.1.2.1) + y_5.1.2.1) ==
                                                              0) =
                                                          true then
                                                      some ((false, ()), ())
                                                    else
                                                      (F13 ((y_5.1.1.1, y_5.1.1.2), ())).bind fun y_6 =>
                                                        (F12 ((y_6.1.1.1, y_6.1.1.2), (a0_0, a0_1), ())).bind fun y_7 =>
                                                          if (!y_7.1.1) = true then some ((false, ()), ())
                                                          else
                                                            if decide ((↑(List.length y.1.2.1.2) : Int) > 0) = true then
                                                              if (!y.1.2.1.1 == b1_0) = true then some ((false, ()), ())
                                                              else
                                                                (F41 ((false, y.1.2.1.2), (false, b1_1), ())).bind
                                                                  fun y =>
                                                                  if (!y.1.2.1 == 0) = true then some ((false, ()), ())
                                                                  else
                                                                    if decide (y.1.1 ≥ 0) = true then
                                                                      some ((false, ()), ())
                                                                    else
                                                                      (F43 ((a0_0, a0_1), (b1_0, b1_1), ())).bind fun y =>
                                                                        if y.1.1 = true then
                                                                          (F44
                                                                                ((a0_0, a0_1), (b1_0, b1_1), (c2_0, c2_1),
                                                                                  ())).bind
                                                                            fun y =>
                                                                            if y.1.1 = true then
                                                                              (F9 ()).bind fun y => some ((y.1.1, ()), ())
                                                                            else some ((false, ()), ())
                                                                        else some ((false, ()), ())
                                                            else
                                                              (F41 ((false, y.1.2.1.2), (false, b1_1), ())).bind fun y =>
                                                                if (!y.1.2.1 == 0) = true then some ((false, ()), ())
                                                                else
                                                                  if decide (y.1.1 ≥ 0) = true then some ((false, ()), ())
                                                                  else
                                                                    (F43 ((a0_0, a0_1), (b1_0, b1_1), ())).bind fun y =>
                                                                      if y.1.1 = true then
                                                                        (F44
                                                                              ((a0_0, a0_1), (b1_0, b1_1), (c2_0, c2_1),
                                                                                ())).bind
                                                                          fun y =>
                                                                          if y.1.1 = true then
                                                                            (F9 ()).bind fun y => some ((y.1.1, ()), ())
                                                                          else some ((false, ()), ())
                                                                      else some ((false, ()), ())
                                      else
                                        (F43 ((a0_0, a0_1), (b1_0, b1_1), ())).bind fun y =>
                                          if y.1.1 = true then
                                            (F44 ((a0_0, a0_1), (b1_0, b1_1), (c2_0, c2_1), ())).bind fun y =>
                                              if y.1.1 = true then (F9 ()).bind fun y => some ((y.1.1, ()), ())
                                              else some ((false, ()), ())
                                          else some ((false, ()), ()) : Option rs8.den) := by kernel_rfl
end Go.Proofs.Rf
/- The tables of math/bits: lengths and counts of ones. -/
namespace Go.Proofs.Rf
open Go Go.RowKit
def len8 : List UInt8 := [0, 1, 2, 2, 3, 3, 3, 3, 4, 4, 4, 4, 4, 4, 4, 4, 5, 5, 5, 5, 5, 5, 5, 5, 5, 5, 5, 5, 5, 5, 5, 5, 6, 6, 6, 6, 6, 6, 6, 6, 6, 6, 6, 6, 6, 6, 6, 6, 6, 6, 6, 6, 6, 6, 6, 6, 6, 6, 6, 6, 6, 6, 6, 6, 7, 7, 7, 7, 7, 7, 7, 7, 7, 7, 7, 7, 7, 7, 7, 7, 7, 7, 7, 7, 7, 7, 7, 7, 7, 7, 7, 7, 7, 7, 7, 7, 7, 7, 7, 7, 7, 7, 7, 7, 7, 7, 7, 7, 7, 7, 7, 7, 7, 7, 7, 7, 7, 7, 7, 7, 7, 7, 7, 7, 7, 7, 7, 7, 8, 8, 8, 8, 8, 8, 8, 8, 8, 8, 8, 8, 8, 8, 8, 8, 8, 8, 8, 8, 8, 8, 8, 8, 8, 8, 8, 8, 8, 8, 8, 8, 8, 8, 8, 8, 8, 8, 8, 8, 8, 8, 8, 8, 8, 8, 8, 8, 8, 8, 8, 8, 8, 8, 8, 8, 8, 8, 8, 8, 8, 8, 8, 8, 8, 8, 8, 8, 8, 8, 8, 8, 8, 8, 8, 8, 8, 8, 8, 8, 8, 8, 8, 8, 8, 8, 8, 8, 8, 8, 8, 8, 8, 8, 8, 8, 8, 8, 8, 8, 8, 8, 8, 8, 8, 8, 8, 8, 8, 8, 8, 8, 8, 8, 8, 8, 8, 8, 8, 8, 8, 8, 8, 8, 8, 8, 8, 8]
def pop8 : List UInt8 := [0, 1, 1, 2, 1, 2, 2, 3, 1, 2, 2, 3, 2, 3, 3, 4, 1, 2, 2, 3, 2, 3, 3, 4, 2, 3, 3, 4, 3, 4, 4, 5, 1, 2, 2, 3, 2, 3, 3, 4, 2, 3, 3, 4, 3, 4, 4, 5, 2, 3, 3, 4, 3, 4, 4, 5, 3, 4, 4, 5, 4, 5, 5, 6, 1, 2, 2, 3, 2, 3, 3, 4, 2, 3, 3, 4, 3, 4, 4, 5, 2, 3, 3, 4, 3, 4, 4, 5, 3, 4, 4, 5, 4, 5, 5, 6, 2, 3, 3, 4, 3, 4, 4, 5, 3, 4, 4, 5, 4, 5, 5, 6, 3, 4, 4, 5, 4, 5, 5, 6, 4, 5, 5, 6, 5, 6, 6, 7, 1, 2, 2, 3, 2, 3, 3, 4, 2, 3, 3, 4, 3, 4, 4, 5, 2, 3, 3, 4, 3, 4, 4, 5, 3, 4, 4, 5, 4, 5, 5, 6, 2, 3, 3, 4, 3, 4, 4, 5, 3, 4, 4, 5, 4, 5, 5, 6, 3, 4, 4, 5, 4, 5, 5, 6, 4, 5, 5, 6, 5, 6, 6, 7, 2, 3, 3, 4, 3, 4, 4, 5, 3, 4, 4, 5, 4, 5, 5, 6, 3, 4, 4, 5, 4, 5, 5, 6, 4, 5, 5, 6, 5, 6, 6, 7, 3, 4, 4, 5, 4, 5, 5, 6, 4, 5, 5, 6, 5, 6, 6, 7, 4, 5, 5, 6, 5, 6, 6, 7, 5, 6, 6, 7, 6, 7, 7, 8]
theorem F113_eq (x : Int) : F113 (x, ()) = (
  if decide (x ≥ 65536) = true then
    if decide (x.fdiv (2 ^ 16) ≥ 256) = true then
    if 0 ≤ IntKind.u8.wrap ((x.fdiv (2 ^ 16)).fdiv (2 ^ 8)) then
      if IntKind.u8.wrap ((x.fdiv (2 ^ 16)).fdiv (2 ^ 8)) < ((256 : Nat) : Int) then
        some ((IntKind.i64.wrap ((IntKind.i64.wrap (16 + 8)) + IntKind.i64.wrap ((len8.getD (IntKind.u8.wrap ((x.fdiv (2 ^ 16)).fdiv (2 ^ 8))).toNat 0).toNat : Int)), ()), ())
      else none
    else none
    else
    if 0 ≤ IntKind.u8.wrap (x.fdiv (2 ^ 16)) then
      if IntKind.u8.wrap (x.fdiv (2 ^ 16)) < ((256 : Nat) : Int) then
        some ((IntKind.i64.wrap (16 + IntKind.i64.wrap ((len8.getD (IntKind.u8.wrap (x.fdiv (2 ^ 16))).toNat 0).toNat : Int)), ()), ())
      else none
    else none
  else
    if decide (x ≥ 256) = true then
    if 0 ≤ IntKind.u8.wrap (x.fdiv (2 ^ 8)) then
      if IntKind.u8.wrap (x.fdiv (2 ^ 8)) < ((256 : Nat) : Int) then
        some ((IntKind.i64.wrap ((IntKind.i64.wrap (0 + 8)) + IntKind.i64.wrap ((len8.getD (IntKind.u8.wrap (x.fdiv (2 ^ 8))).toNat 0).toNat : Int)), ()), ())
      else none
    else none
    else
    if 0 ≤ IntKind.u8.wrap (x) then
      if IntKind.u8.wrap (x) < ((256 : Nat) : Int) then
        some ((IntKind.i64.wrap (0 + IntKind.i64.wrap ((len8.getD (IntKind.u8.wrap (x)).toNat 0).toNat : Int)), ()), ())
      else none
    else none : Option rs113.den) := by kernel_rfl
theorem F68_eq (x : Int) : F68 (x, ()) = (
  if 0 ≤ x.fdiv (2 ^ 24) then
  if x.fdiv (2 ^ 24) < ((256 : Nat) : Int) then
  if 0 ≤ bitop .and .u32 (x.fdiv (2 ^ 16)) 255 then
  if bitop .and .u32 (x.fdiv (2 ^ 16)) 255 < ((256 : Nat) : Int) then
  if 0 ≤ bitop .and .u32 (x.fdiv (2 ^ 8)) 255 then
  if bitop .and .u32 (x.fdiv (2 ^ 8)) 255 < ((256 : Nat) : Int) then
  if 0 ≤ bitop .and .u32 x 255 then
  if bitop .and .u32 x 255 < ((256 : Nat) : Int) then
  some ((IntKind.i64.wrap (IntKind.u8.wrap (IntKind.u8.wrap (IntKind.u8.wrap (((pop8.getD (x.fdiv (2 ^ 24)).toNat 0).toNat : Int) + ((pop8.getD (bitop .and .u32 (x.fdiv (2 ^ 16)) 255).toNat 0).toNat : Int)) + ((pop8.getD (bitop .and .u32 (x.fdiv (2 ^ 8)) 255).toNat 0).toNat : Int)) + ((pop8.getD (bitop .and .u32 x 255).toNat 0).toNat : Int))), ()), ())
  else none
  else none
  else none
  else none
  else none
  else none
  else none
  else none : Option rs68.den) := by kernel_rfl
end Go.Proofs.Rf
