/- Texts put together: EQ010, EQ011, L01, W1, W2, W3. -/
import Derived.Test.YtofmlmonkfocnaaGreatDoorM4
import Derived.Lib.ItoaNum
/- The functions, evaluated. -/
set_option linter.unusedVariables false
namespace Go.Proofs.Rf
open Go Go.RowKit
def tbEQ01_0 : List UInt8 := [(48 : UInt8), (49 : UInt8), (50 : UInt8), (51 : UInt8), (52 : UInt8), (53 : UInt8), (54 : UInt8), (55 : UInt8), (56 : UInt8), (57 : UInt8), (97 : UInt8), (98 : UInt8), (99 : UInt8), (100 : UInt8), (101 : UInt8), (102 : UInt8), (103 : UInt8), (104 : UInt8), (105 : UInt8), (106 : UInt8), (107 : UInt8), (108 : UInt8), (109 : UInt8), (110 : UInt8), (111 : UInt8), (112 : UInt8), (113 : UInt8), (114 : UInt8), (115 : UInt8), (116 : UInt8), (117 : UInt8), (118 : UInt8), (119 : UInt8), (120 : UInt8), (121 : UInt8), (122 : UInt8)]
def tbEQ01_1 : List UInt8 := [(48 : UInt8), (48 : UInt8), (48 : UInt8), (49 : UInt8), (48 : UInt8), (50 : UInt8), (48 : UInt8), (51 : UInt8), (48 : UInt8), (52 : UInt8), (48 : UInt8), (53 : UInt8), (48 : UInt8), (54 : UInt8), (48 : UInt8), (55 : UInt8), (48 : UInt8), (56 : UInt8), (48 : UInt8), (57 : UInt8), (49 : UInt8), (48 : UInt8), (49 : UInt8), (49 : UInt8), (49 : UInt8), (50 : UInt8), (49 : UInt8), (51 : UInt8), (49 : UInt8), (52 : UInt8), (49 : UInt8), (53 : UInt8), (49 : UInt8), (54 : UInt8), (49 : UInt8), (55 : UInt8), (49 : UInt8), (56 : UInt8), (49 : UInt8), (57 : UInt8), (50 : UInt8), (48 : UInt8), (50 : UInt8), (49 : UInt8), (50 : UInt8), (50 : UInt8), (50 : UInt8), (51 : UInt8), (50 : UInt8), (52 : UInt8), (50 : UInt8), (53 : UInt8), (50 : UInt8), (54 : UInt8), (50 : UInt8), (55 : UInt8), (50 : UInt8), (56 : UInt8), (50 : UInt8), (57 : UInt8), (51 : UInt8), (48 : UInt8), (51 : UInt8), (49 : UInt8), (51 : UInt8), (50 : UInt8), (51 : UInt8), (51 : UInt8), (51 : UInt8), (52 : UInt8), (51 : UInt8), (53 : UInt8), (51 : UInt8), (54 : UInt8), (51 : UInt8), (55 : UInt8), (51 : UInt8), (56 : UInt8), (51 : UInt8), (57 : UInt8), (52 : UInt8), (48 : UInt8), (52 : UInt8), (49 : UInt8), (52 : UInt8), (50 : UInt8), (52 : UInt8), (51 : UInt8), (52 : UInt8), (52 : UInt8), (52 : UInt8), (53 : UInt8), (52 : UInt8), (54 : UInt8), (52 : UInt8), (55 : UInt8), (52 : UInt8), (56 : UInt8), (52 : UInt8), (57 : UInt8), (53 : UInt8), (48 : UInt8), (53 : UInt8), (49 : UInt8), (53 : UInt8), (50 : UInt8), (53 : UInt8), (51 : UInt8), (53 : UInt8), (52 : UInt8), (53 : UInt8), (53 : UInt8), (53 : UInt8), (54 : UInt8), (53 : UInt8), (55 : UInt8), (53 : UInt8), (56 : UInt8), (53 : UInt8), (57 : UInt8), (54 : UInt8), (48 : UInt8), (54 : UInt8), (49 : UInt8), (54 : UInt8), (50 : UInt8), (54 : UInt8), (51 : UInt8), (54 : UInt8), (52 : UInt8), (54 : UInt8), (53 : UInt8), (54 : UInt8), (54 : UInt8), (54 : UInt8), (55 : UInt8), (54 : UInt8), (56 : UInt8), (54 : UInt8), (57 : UInt8), (55 : UInt8), (48 : UInt8), (55 : UInt8), (49 : UInt8), (55 : UInt8), (50 : UInt8), (55 : UInt8), (51 : UInt8), (55 : UInt8), (52 : UInt8), (55 : UInt8), (53 : UInt8), (55 : UInt8), (54 : UInt8), (55 : UInt8), (55 : UInt8), (55 : UInt8), (56 : UInt8), (55 : UInt8), (57 : UInt8), (56 : UInt8), (48 : UInt8), (56 : UInt8), (49 : UInt8), (56 : UInt8), (50 : UInt8), (56 : UInt8), (51 : UInt8), (56 : UInt8), (52 : UInt8), (56 : UInt8), (53 : UInt8), (56 : UInt8), (54 : UInt8), (56 : UInt8), (55 : UInt8), (56 : UInt8), (56 : UInt8), (56 : UInt8), (57 : UInt8), (57 : UInt8), (48 : UInt8), (57 : UInt8), (49 : UInt8), (57 : UInt8), (50 : UInt8), (57 : UInt8), (51 : UInt8), (57 : UInt8), (52 : UInt8), (57 : UInt8), (53 : UInt8), (57 : UInt8), (54 : UInt8), (57 : UInt8), (55 : UInt8), (57 : UInt8), (56 : UInt8), (57 : UInt8), (57 : UInt8)]
theorem S9_2_eq (t5 : List (List UInt8)) (t6 : Int) (t7 : Int) : S9_2 ((t5, t6, t7, ()), ()) = (
  if decide (t7 < t6) = true then
    if 0 ≤ t7 then
      if t7 < (↑t5.length : Int) then
        if decide ((↑(List.length (t5.getD t7.toNat [])) : Int) > 600) = true then
          some (Sum.inr (Sum.inl ((false, ()), ())))
        else some (Sum.inl ((t5, t6, IntKind.i64.wrap (t7 + 1), ()), ()))
      else none
    else none
  else some (Sum.inr (Sum.inr ((), ()))) : Option (sh9_2.den ⊕ denX w9_2)) := by kernel_rfl
theorem F9_eq (g9_2 : sh9_2.den → Option (denX w9_2)) (l0 : List (List UInt8)) : F9 g9_2 (l0, ()) = (
  (g9_2 ((l0, (↑l0.length : Int), 0, ()), ())).bind fun y =>
    Sum.elim (fun y => some ((y.1.1, ()), ())) (fun z => some ((true, ()), ())) y : Option rs9.den) := by kernel_rfl
theorem S89_2_eq (s0 : List UInt8) (it0s : List UInt8) (it0p : Nat) : S89_2 ((s0, (), ()), ((it0s, it0p), ())) = (
  if it0p < it0s.length then
    if decide ((↑(Utf8.decode { data := { toList := it0s } } it0p).1 : Int) < 48) = true then
      some (Sum.inr (Sum.inl ((false, ()), ())))
    else
      if decide ((↑(Utf8.decode { data := { toList := it0s } } it0p).1 : Int) > 57) = true then
        some (Sum.inr (Sum.inl ((false, ()), ())))
      else some (Sum.inl ((s0, (), ()), (it0s, it0p + (Utf8.decode { data := { toList := it0s } } it0p).2), ()))
  else some (Sum.inr (Sum.inr ((s0, ()), ()))) : Option (sh89_2.den ⊕ denX w89_2)) := by kernel_rfl
theorem F89_eq (g89_2 : sh89_2.den → Option (denX w89_2)) (s0 : List UInt8) : F89 g89_2 (s0, ()) = (
  (g89_2 ((s0, (), ()), (s0, 0), ())).bind fun y =>
    Sum.elim (fun y => some ((y.1.1, ()), ()))
      (fun z =>
        if (!z.1.1 == []) = true then
          if (z.1.1 == [(48 : UInt8)]) = true then some ((true, ()), ())
          else
            if 0 < (↑(List.length z.1.1) : Int) then
              some ((!(↑(List.getD z.1.1 0 (0 : UInt8)).toNat : Int) == 48, ()), ())
            else none
        else some ((false, ()), ()))
      y : Option rs89.den) := by kernel_rfl
theorem S121_10_eq (s05 : List UInt8) (n6 : Int) (t47 : List Int) (t48 : Int) (t49 : Int) : S121_10 ((s05, n6, t47, t48, t49, ()), ()) = (
  if decide (t49 < t48) = true then
    if 0 ≤ t49 then
      if t49 < (↑t47.length : Int) then
        if decide (IntKind.u8.wrap (t47.getD t49.toNat 0 - 48) > 9) = true then none
        else
          some
            (Sum.inl
              ((s05,
                  IntKind.i64.wrap
                    (IntKind.i64.wrap (n6 * 10) + IntKind.i64.wrap (IntKind.u8.wrap (t47.getD t49.toNat 0 - 48))),
                  t47, t48, IntKind.i64.wrap (t49 + 1), ()),
                ()))
      else none
    else none
  else some (Sum.inr ((s05, n6, ()), ())) : Option (sh121_10.den ⊕ denX w121_10)) := by kernel_rfl
theorem F121_eq (g121_10 : sh121_10.den → Option (denX w121_10)) (s0 : List UInt8) : F121 g121_10 (s0, ()) = (
  if decide (0 < (↑s0.length : Int)) = true then
    if decide ((↑s0.length : Int) < 19) = true then
      if 0 < (↑s0.length : Int) then
        if ((↑(s0.getD 0 (0 : UInt8)).toNat : Int) == 45) = true then
          if 1 ≤ (↑s0.length : Int) then
            if (↑s0.length : Int) ≤ (↑s0.length : Int) then
              if decide ((↑(List.drop 1 s0).length : Int) < 1) = true then none
              else
                if (List.drop 1 s0).length ≤ 4294967296 then
                  (g121_10
                        ((s0, 0, List.map (fun b => (↑b.toNat : Int)) (List.drop 1 s0),
                            (↑(List.map (fun b => (↑b.toNat : Int)) (List.drop 1 s0)).length : Int), 0, ()),
                          ())).bind
                    fun y =>
                    if 0 < (↑(List.length y.1.1) : Int) then
                      if ((↑(List.getD y.1.1 0 (0 : UInt8)).toNat : Int) == 45) = true then
                        some ((IntKind.i64.wrap (0 - y.1.2.1), true, ()), ())
                      else some ((y.1.2.1, true, ()), ())
                    else none
                else none
            else none
          else none
        else
          if 0 < (↑s0.length : Int) then
            if ((↑(s0.getD 0 (0 : UInt8)).toNat : Int) == 43) = true then
              if 1 ≤ (↑s0.length : Int) then
                if (↑s0.length : Int) ≤ (↑s0.length : Int) then
                  if decide ((↑(List.drop 1 s0).length : Int) < 1) = true then none
                  else
                    if (List.drop 1 s0).length ≤ 4294967296 then
                      (g121_10
                            ((s0, 0, List.map (fun b => (↑b.toNat : Int)) (List.drop 1 s0),
                                (↑(List.map (fun b => (↑b.toNat : Int)) (List.drop 1 s0)).length : Int), 0, ()),
                              ())).bind
                        fun y =>
                        if 0 < (↑(List.length y.1.1) : Int) then
                          if ((↑(List.getD y.1.1 0 (0 : UInt8)).toNat : Int) == 45) = true then
                            some ((IntKind.i64.wrap (0 - y.1.2.1), true, ()), ())
                          else some ((y.1.2.1, true, ()), ())
                        else none
                    else none
                else none
              else none
            else
              if s0.length ≤ 4294967296 then
                (g121_10
                      ((s0, 0, List.map (fun b => (↑b.toNat : Int)) s0,
                          (↑(List.map (fun b => (↑b.toNat : Int)) s0).length : Int), 0, ()),
                        ())).bind
                  fun y =>
                  if 0 < (↑(List.length y.1.1) : Int) then
                    if ((↑(List.getD y.1.1 0 (0 : UInt8)).toNat : Int) == 45) = true then
                      some ((IntKind.i64.wrap (0 - y.1.2.1), true, ()), ())
                    else some ((y.1.2.1, true, ()), ())
                  else none
              else none
          else none
      else none
    else none
  else none : Option rs121.den) := by kernel_rfl
theorem F90_eq (F121 : (SV.denL ps121) → Option (rs121).den) (s0 : List UInt8) : F90 F121 (s0, ()) = (
  (F121 (s0, ())).bind fun y => if (!y.1.2.1) = true then none else some ((y.1.1, true, ()), ()) : Option rs90.den) := by kernel_rfl
theorem F42_eq (F89 : (SV.denL ps89) → Option (rs89).den) (F90 : (SV.denL ps90) → Option (rs90).den) (typ0 : List UInt8) : F42 F89 F90 (typ0, ()) = (
  if (!typ0 == []) = true then
    if 1 ≤ (↑typ0.length : Int) then
      if 1 ≤ (↑typ0.length : Int) then
        if (↑typ0.length : Int) ≤ (↑typ0.length : Int) then
          if
              (!(lookM Ty.str Ty.bool
                      [([(117 : UInt8)], false), ([(105 : UInt8)], true)]
                      (List.take 1 typ0)).isSome) =
                true then
            some ((((0, false), []), 6, ()), ())
          else
            (F89 (List.drop 1 typ0, ())).bind fun y =>
              if (!y.1.1) = true then some ((((0, false), []), 6, ()), ())
              else
                if decide ((↑(List.drop 1 typ0).length : Int) > 3) = true then some ((((0, false), []), 6, ()), ())
                else
                  (F90 (List.drop 1 typ0, ())).bind fun y =>
                    if decide (y.1.1 > 64) = true then some ((((0, false), []), 3, ()), ())
                    else
                      if
                          (y.1.1 == 0 &&
                              ((lookM Ty.str Ty.bool
                                        [([(117 : UInt8)], false),
                                          ([(105 : UInt8)], true)]
                                        (List.take 1 typ0)).getD
                                    false ==
                                  true &&
                                true)) =
                            true then
                        some ((((0, false), []), 3, ()), ())
                      else
                        some
                          ((((y.1.1,
                                  (lookM Ty.str Ty.bool
                                        [([(117 : UInt8)], false),
                                          ([(105 : UInt8)], true)]
                                        (List.take 1 typ0)).getD
                                    false),
                                typ0),
                              0, ()),
                            ())
        else none
      else none
    else none
  else some ((((0, false), []), 6, ()), ()) : Option rs42.den) := by kernel_rfl
theorem F57_eq (n0 : Int) : F57 (n0, ()) = (
  if n0 < 0 then none else some ((IntKind.u64.wrap (IntKind.u64.wrap (1 * 2 ^ min n0.toNat 64) - 1), ()), ()) : Option rs57.den) := by kernel_rfl
theorem F126_eq (i0 : Int) : F126 (i0, ()) = (
  if decide (i0 < 10) = true then
    if 0 ≤ i0 then
      if i0 ≤ IntKind.i64.wrap (i0 + 1) then
        if IntKind.i64.wrap (i0 + 1) ≤ (↑36 : Int) then
          some
            ((List.drop i0.toNat
                  (List.take (IntKind.i64.wrap (i0 + 1)).toNat
                    tbEQ01_0),
                ()),
              ())
        else none
      else none
    else none
  else
    if 0 ≤ IntKind.i64.wrap (i0 * 2) then
      if IntKind.i64.wrap (i0 * 2) ≤ IntKind.i64.wrap (IntKind.i64.wrap (i0 * 2) + 2) then
        if IntKind.i64.wrap (IntKind.i64.wrap (i0 * 2) + 2) ≤ (↑200 : Int) then
          some
            ((List.drop (IntKind.i64.wrap (i0 * 2)).toNat
                  (List.take (IntKind.i64.wrap (IntKind.i64.wrap (i0 * 2) + 2)).toNat
                    tbEQ01_1),
                ()),
              ())
        else none
      else none
    else none : Option rs126.den) := by kernel_rfl
theorem S128z_1_eq (a0l : Nat) (u1 : Int) (nd4 : Int) (rw0 : List Int) : S128z_1 ((a0l, u1, nd4, ()), (rw0, ())) = (
  if decide (nd4 ≥ 8) = true then
    if 0 ≤ IntKind.u32.wrap (IntKind.u32.wrap (((IntKind.u32.wrap (u1.tmod 100000000)).tmod 10000).tmod 100 * 2) + 1) then
      if
          IntKind.u32.wrap (IntKind.u32.wrap (((IntKind.u32.wrap (u1.tmod 100000000)).tmod 10000).tmod 100 * 2) + 1) <
            (↑200 : Int) then
        if 0 ≤ IntKind.u32.wrap (((IntKind.u32.wrap (u1.tmod 100000000)).tmod 10000).tmod 100 * 2) then
          if IntKind.u32.wrap (((IntKind.u32.wrap (u1.tmod 100000000)).tmod 10000).tmod 100 * 2) < (↑200 : Int) then
            if 0 ≤ IntKind.i64.wrap (nd4 - 1) then
              if IntKind.i64.wrap (nd4 - 1) < (↑a0l : Int) then
                if 0 ≤ IntKind.i64.wrap (nd4 - 2) then
                  if IntKind.i64.wrap (nd4 - 2) < (↑a0l : Int) then
                    if
                        0 ≤
                          IntKind.u32.wrap
                            (IntKind.u32.wrap
                                (IntKind.u32.wrap (((IntKind.u32.wrap (u1.tmod 100000000)).tmod 10000).tdiv 100) * 2) +
                              1) then
                      if
                          IntKind.u32.wrap
                              (IntKind.u32.wrap
                                  (IntKind.u32.wrap (((IntKind.u32.wrap (u1.tmod 100000000)).tmod 10000).tdiv 100) * 2) +
                                1) <
                            (↑200 : Int) then
                        if
                            0 ≤
                              IntKind.u32.wrap
                                (IntKind.u32.wrap (((IntKind.u32.wrap (u1.tmod 100000000)).tmod 10000).tdiv 100) * 2) then
                          if
                              IntKind.u32.wrap
                                  (IntKind.u32.wrap (((IntKind.u32.wrap (u1.tmod 100000000)).tmod 10000).tdiv 100) * 2) <
                                (↑200 : Int) then
                            if 0 ≤ IntKind.i64.wrap (nd4 - 3) then
                              if IntKind.i64.wrap (nd4 - 3) < (↑a0l : Int) then
                                if 0 ≤ IntKind.i64.wrap (nd4 - 4) then
                                  if IntKind.i64.wrap (nd4 - 4) < (↑a0l : Int) then
                                    if
                                        0 ≤
                                          IntKind.u32.wrap
                                            (IntKind.u32.wrap
                                                ((IntKind.u32.wrap
                                                        ((IntKind.u32.wrap (u1.tmod 100000000)).tdiv 10000)).tmod
                                                    100 *
                                                  2) +
                                              1) then
                                      if
                                          IntKind.u32.wrap
                                              (IntKind.u32.wrap
                                                  ((IntKind.u32.wrap
                                                          ((IntKind.u32.wrap (u1.tmod 100000000)).tdiv 10000)).tmod
                                                      100 *
                                                    2) +
                                                1) <
                                            (↑200 : Int) then
                                        if
                                            0 ≤
                                              IntKind.u32.wrap
                                                ((IntKind.u32.wrap
                                                        ((IntKind.u32.wrap (u1.tmod 100000000)).tdiv 10000)).tmod
                                                    100 *
                                                  2) then
                                          if
                                              IntKind.u32.wrap
                                                  ((IntKind.u32.wrap
                                                          ((IntKind.u32.wrap (u1.tmod 100000000)).tdiv 10000)).tmod
                                                      100 *
                                                    2) <
                                                (↑200 : Int) then
                                            if 0 ≤ IntKind.i64.wrap (nd4 - 5) then
                                              if IntKind.i64.wrap (nd4 - 5) < (↑a0l : Int) then
                                                if 0 ≤ IntKind.i64.wrap (nd4 - 6) then
                                                  if IntKind.i64.wrap (nd4 - 6) < (↑a0l : Int) then
                                                    if
                                                        0 ≤
                                                          IntKind.u32.wrap
                                                            (IntKind.u32.wrap
                                                                (IntKind.u32.wrap
                                                                    ((IntKind.u32.wrap
                                                                          ((IntKind.u32.wrap (u1.tmod 100000000)).tdiv
                                                                            10000)).tdiv
                                                                      100) *
                                                                  2) +
                                                              1) then
                                                      if
                                                          IntKind.u32.wrap
                                                              (IntKind.u32.wrap
                                                                  (IntKind.u32.wrap
                                                                      ((IntKind.u32.wrap
                                                                            ((IntKind.u32.wrap (u1.tmod 100000000)).tdiv
                                                                              10000)).tdiv
                                                                        100) *
                                                                    2) +
                                                                1) <
                                                            (↑200 : Int) then
                                                        if
                                                            0 ≤
                                                              IntKind.u32.wrap
                                                                (IntKind.u32.wrap
                                                                    ((IntKind.u32.wrap
                                                                          ((IntKind.u32.wrap (u1.tmod 100000000)).tdiv
                                                                            10000)).tdiv
                                                                      100) *
                                                                  2) then
                                                          if
                                                              IntKind.u32.wrap
                                                                  (IntKind.u32.wrap
                                                                      ((IntKind.u32.wrap
                                                                            ((IntKind.u32.wrap (u1.tmod 100000000)).tdiv
                                                                              10000)).tdiv
                                                                        100) *
                                                                    2) <
                                                                (↑200 : Int) then
                                                            if 0 ≤ IntKind.i64.wrap (nd4 - 7) then
                                                              if IntKind.i64.wrap (nd4 - 7) < (↑a0l : Int) then
                                                                if 0 ≤ IntKind.i64.wrap (nd4 - 8) then
                                                                  if IntKind.i64.wrap (nd4 - 8) < (↑a0l : Int) then
                                                                    some
                                                                      (Sum.inl
                                                                        ((a0l, IntKind.u64.wrap (u1.tdiv 100000000),
                                                                            IntKind.i64.wrap (nd4 - 8), ()),
                                                                          (((((((rw0.set
                                                                                                        (0 +
                                                                                                          (IntKind.i64.wrap
                                                                                                              (nd4 -
                                                                                                                1)).toNat)
                                                                                                        (↑(tbEQ01_1.getD
                                                                                                                (IntKind.u32.wrap
                                                                                                                    (IntKind.u32.wrap
                                                                                                                        (((IntKind.u32.wrap
                                                                                                                                    (u1.tmod
                                                                                                                                      100000000)).tmod
                                                                                                                                10000).tmod
                                                                                                                            100 *
                                                                                                                          2) +
                                                                                                                      1)).toNat
                                                                                                                (0 : UInt8)).toNat :
                                                                                                          Int)).set
                                                                                                    (0 +
                                                                                                      (IntKind.i64.wrap
                                                                                                          (nd4 -
                                                                                                            2)).toNat)
                                                                                                    (↑(tbEQ01_1.getD
                                                                                                            (IntKind.u32.wrap
                                                                                                                (((IntKind.u32.wrap
                                                                                                                            (u1.tmod
                                                                                                                              100000000)).tmod
                                                                                                                        10000).tmod
                                                                                                                    100 *
                                                                                                                  2)).toNat
                                                                                                            (0 : UInt8)).toNat :
                                                                                                      Int)).set
                                                                                                (0 +
                                                                                                  (IntKind.i64.wrap
                                                                                                      (nd4 - 3)).toNat)
                                                                                                (↑(tbEQ01_1.getD
                                                                                                        (IntKind.u32.wrap
                                                                                                            (IntKind.u32.wrap
                                                                                                                (IntKind.u32.wrap
                                                                                                                    (((IntKind.u32.wrap
                                                                                                                              (u1.tmod
                                                                                                                                100000000)).tmod
                                                                                                                          10000).tdiv
                                                                                                                      100) *
                                                                                                                  2) +
                                                                                                              1)).toNat
                                                                                                        (0 : UInt8)).toNat :
                                                                                                  Int)).set
                                                                                            (0 +
                                                                                              (IntKind.i64.wrap
                                                                                                  (nd4 - 4)).toNat)
                                                                                            (↑(tbEQ01_1.getD
                                                                                                    (IntKind.u32.wrap
                                                                                                        (IntKind.u32.wrap
                                                                                                            (((IntKind.u32.wrap
                                                                                                                      (u1.tmod
                                                                                                                        100000000)).tmod
                                                                                                                  10000).tdiv
                                                                                                              100) *
                                                                                                          2)).toNat
                                                                                                    (0 : UInt8)).toNat :
                                                                                              Int)).set
                                                                                        (0 +
                                                                                          (IntKind.i64.wrap
                                                                                              (nd4 - 5)).toNat)
                                                                                        (↑(tbEQ01_1.getD
                                                                                                (IntKind.u32.wrap
                                                                                                    (IntKind.u32.wrap
                                                                                                        ((IntKind.u32.wrap
                                                                                                                ((IntKind.u32.wrap
                                                                                                                      (u1.tmod
                                                                                                                        100000000)).tdiv
                                                                                                                  10000)).tmod
                                                                                                            100 *
                                                                                                          2) +
                                                                                                      1)).toNat
                                                                                                (0 : UInt8)).toNat :
                                                                                          Int)).set
                                                                                    (0 +
                                                                                      (IntKind.i64.wrap (nd4 - 6)).toNat)
                                                                                    (↑(tbEQ01_1.getD
                                                                                            (IntKind.u32.wrap
                                                                                                ((IntKind.u32.wrap
                                                                                                        ((IntKind.u32.wrap
                                                                                                              (u1.tmod
                                                                                                                100000000)).tdiv
                                                                                                          10000)).tmod
                                                                                                    100 *
                                                                                                  2)).toNat
                                                                                            (0 : UInt8)).toNat :
                                                                                      Int)).set
                                                                                (0 + (IntKind.i64.wrap (nd4 - 7)).toNat)
                                                                                (↑(tbEQ01_1.getD
                                                                                        (IntKind.u32.wrap
                                                                                            (IntKind.u32.wrap
                                                                                                (IntKind.u32.wrap
                                                                                                    ((IntKind.u32.wrap
                                                                                                          ((IntKind.u32.wrap
                                                                                                                (u1.tmod
                                                                                                                  100000000)).tdiv
                                                                                                            10000)).tdiv
                                                                                                      100) *
                                                                                                  2) +
                                                                                              1)).toNat
                                                                                        (0 : UInt8)).toNat :
                                                                                  Int)).set
                                                                            (0 + (IntKind.i64.wrap (nd4 - 8)).toNat)
                                                                            (↑(tbEQ01_1.getD
                                                                                    (IntKind.u32.wrap
                                                                                        (IntKind.u32.wrap
                                                                                            ((IntKind.u32.wrap
                                                                                                  ((IntKind.u32.wrap
                                                                                                        (u1.tmod
                                                                                                          100000000)).tdiv
                                                                                                    10000)).tdiv
                                                                                              100) *
                                                                                          2)).toNat
                                                                                    (0 : UInt8)).toNat :
                                                                              Int),
                                                                          ()))
                                                                  else none
                                                                else none
                                                              else none
                                                            else none
                                                          else none
                                                        else none
                                                      else none
                                                    else none
                                                  else none
                                                else none
                                              else none
                                            else none
                                          else none
                                        else none
                                      else none
                                    else none
                                  else none
                                else none
                              else none
                            else none
                          else none
                        else none
                      else none
                    else none
                  else none
                else none
              else none
            else none
          else none
        else none
      else none
    else none
  else some (Sum.inr ((a0l, u1, nd4, ()), rw0, ())) : Option (sh128z_1.den ⊕ denX w128z_1)) := by kernel_rfl
theorem F128z_eq (g128z_1 : sh128z_1.den → Option (denX w128z_1)) (a0l : Nat) (u1 : Int) (rw0 : List Int) : F128z g128z_1 ((a0l, u1, ()), (rw0, ())) = (
  ((g128z_1 ((a0l, u1, (↑a0l : Int), ()), rw0, ())).bind fun y =>
        if decide (y.1.2.2.1 ≥ 4) = true then
          if 0 ≤ IntKind.u32.wrap (IntKind.u32.wrap (((IntKind.u32.wrap y.1.2.1).tmod 10000).tmod 100 * 2) + 1) then
            if
                IntKind.u32.wrap (IntKind.u32.wrap (((IntKind.u32.wrap y.1.2.1).tmod 10000).tmod 100 * 2) + 1) <
                  (↑200 : Int) then
              if 0 ≤ IntKind.u32.wrap (((IntKind.u32.wrap y.1.2.1).tmod 10000).tmod 100 * 2) then
                if IntKind.u32.wrap (((IntKind.u32.wrap y.1.2.1).tmod 10000).tmod 100 * 2) < (↑200 : Int) then
                  if 0 ≤ IntKind.i64.wrap (y.1.2.2.1 - 1) then
                    if IntKind.i64.wrap (y.1.2.2.1 - 1) < (↑y.1.1 : Int) then
                      if 0 ≤ IntKind.i64.wrap (y.1.2.2.1 - 2) then
                        if IntKind.i64.wrap (y.1.2.2.1 - 2) < (↑y.1.1 : Int) then
                          if
                              0 ≤
                                IntKind.u32.wrap
                                  (IntKind.u32.wrap
                                      (IntKind.u32.wrap (((IntKind.u32.wrap y.1.2.1).tmod 10000).tdiv 100) * 2) +
                                    1) then
                            if
                                IntKind.u32.wrap
                                    (IntKind.u32.wrap
                                        (IntKind.u32.wrap (((IntKind.u32.wrap y.1.2.1).tmod 10000).tdiv 100) * 2) +
                                      1) <
                                  (↑200 : Int) then
                              if
                                  0 ≤
                                    IntKind.u32.wrap
                                      (IntKind.u32.wrap (((IntKind.u32.wrap y.1.2.1).tmod 10000).tdiv 100) * 2) then
                                if
                                    IntKind.u32.wrap
                                        (IntKind.u32.wrap (((IntKind.u32.wrap y.1.2.1).tmod 10000).tdiv 100) * 2) <
                                      (↑200 : Int) then
                                  if 0 ≤ IntKind.i64.wrap (y.1.2.2.1 - 3) then
                                    if IntKind.i64.wrap (y.1.2.2.1 - 3) < (↑y.1.1 : Int) then
                                      if 0 ≤ IntKind.i64.wrap (y.1.2.2.1 - 4) then
                                        if IntKind.i64.wrap (y.1.2.2.1 - 4) < (↑y.1.1 : Int) then
                                          if decide (IntKind.i64.wrap (y.1.2.2.1 - 4) ≥ 2) = true then
                                            if
                                                0 ≤
                                                  IntKind.u32.wrap
                                                    (IntKind.u32.wrap
                                                        ((IntKind.u32.wrap ((IntKind.u32.wrap y.1.2.1).tdiv 10000)).tmod
                                                            100 *
                                                          2) +
                                                      1) then
                                              if
                                                  IntKind.u32.wrap
                                                      (IntKind.u32.wrap
                                                          ((IntKind.u32.wrap ((IntKind.u32.wrap y.1.2.1).tdiv 10000)).tmod
                                                              100 *
                                                            2) +
                                                        1) <
                                                    (↑200 : Int) then
                                                if
                                                    0 ≤
                                                      IntKind.u32.wrap
                                                        ((IntKind.u32.wrap ((IntKind.u32.wrap y.1.2.1).tdiv 10000)).tmod
                                                            100 *
                                                          2) then
                                                  if
                                                      IntKind.u32.wrap
                                                          ((IntKind.u32.wrap ((IntKind.u32.wrap y.1.2.1).tdiv 10000)).tmod
                                                              100 *
                                                            2) <
                                                        (↑200 : Int) then
                                                    if 0 ≤ IntKind.i64.wrap (IntKind.i64.wrap (y.1.2.2.1 - 4) - 1) then
                                                      if
                                                          IntKind.i64.wrap (IntKind.i64.wrap (y.1.2.2.1 - 4) - 1) <
                                                            (↑y.1.1 : Int) then
                                                        if
                                                            0 ≤
                                                              IntKind.i64.wrap (IntKind.i64.wrap (y.1.2.2.1 - 4) - 2) then
                                                          if
                                                              IntKind.i64.wrap (IntKind.i64.wrap (y.1.2.2.1 - 4) - 2) <
                                                                (↑y.1.1 : Int) then
                                                            if
                                                                decide
                                                                    (IntKind.i64.wrap
                                                                        (IntKind.i64.wrap (y.1.2.2.1 - 4) - 2) >
                                                                      0) =
                                                                  true then
                                                              if 0 < (↑y.1.1 : Int) then
                                                                some
                                                                  ((y.1.1, ()),
                                                                    ((((((List.set y.2.1
                                                                                              (0 +
                                                                                                (IntKind.i64.wrap
                                                                                                    (y.1.2.2.1 -
                                                                                                      1)).toNat)
                                                                                              (↑(tbEQ01_1.getD
                                                                                                      (IntKind.u32.wrap
                                                                                                          (IntKind.u32.wrap
                                                                                                              (((IntKind.u32.wrap
                                                                                                                          y.1.2.1).tmod
                                                                                                                      10000).tmod
                                                                                                                  100 *
                                                                                                                2) +
                                                                                                            1)).toNat
                                                                                                      (0 : UInt8)).toNat :
                                                                                                Int)).set
                                                                                          (0 +
                                                                                            (IntKind.i64.wrap
                                                                                                (y.1.2.2.1 - 2)).toNat)
                                                                                          (↑(tbEQ01_1.getD
                                                                                                  (IntKind.u32.wrap
                                                                                                      (((IntKind.u32.wrap
                                                                                                                  y.1.2.1).tmod
                                                                                                              10000).tmod
                                                                                                          100 *
                                                                                                        2)).toNat
                                                                                                  (0 : UInt8)).toNat :
                                                                                            Int)).set
                                                                                      (0 +
                                                                                        (IntKind.i64.wrap
                                                                                            (y.1.2.2.1 - 3)).toNat)
                                                                                      (↑(tbEQ01_1.getD
                                                                                              (IntKind.u32.wrap
                                                                                                  (IntKind.u32.wrap
                                                                                                      (IntKind.u32.wrap
                                                                                                          (((IntKind.u32.wrap
                                                                                                                    y.1.2.1).tmod
                                                                                                                10000).tdiv
                                                                                                            100) *
                                                                                                        2) +
                                                                                                    1)).toNat
                                                                                              (0 : UInt8)).toNat :
                                                                                        Int)).set
                                                                                  (0 +
                                                                                    (IntKind.i64.wrap
                                                                                        (y.1.2.2.1 - 4)).toNat)
                                                                                  (↑(tbEQ01_1.getD
                                                                                          (IntKind.u32.wrap
                                                                                              (IntKind.u32.wrap
                                                                                                  (((IntKind.u32.wrap
                                                                                                            y.1.2.1).tmod
                                                                                                        10000).tdiv
                                                                                                    100) *
                                                                                                2)).toNat
                                                                                          (0 : UInt8)).toNat :
                                                                                    Int)).set
                                                                              (0 +
                                                                                (IntKind.i64.wrap
                                                                                    (IntKind.i64.wrap (y.1.2.2.1 - 4) -
                                                                                      1)).toNat)
                                                                              (↑(tbEQ01_1.getD
                                                                                      (IntKind.u32.wrap
                                                                                          (IntKind.u32.wrap
                                                                                              ((IntKind.u32.wrap
                                                                                                      ((IntKind.u32.wrap
                                                                                                            y.1.2.1).tdiv
                                                                                                        10000)).tmod
                                                                                                  100 *
                                                                                                2) +
                                                                                            1)).toNat
                                                                                      (0 : UInt8)).toNat :
                                                                                Int)).set
                                                                          (0 +
                                                                            (IntKind.i64.wrap
                                                                                (IntKind.i64.wrap (y.1.2.2.1 - 4) -
                                                                                  2)).toNat)
                                                                          (↑(tbEQ01_1.getD
                                                                                  (IntKind.u32.wrap
                                                                                      ((IntKind.u32.wrap
                                                                                              ((IntKind.u32.wrap
                                                                                                    y.1.2.1).tdiv
                                                                                                10000)).tmod
                                                                                          100 *
                                                                                        2)).toNat
                                                                                  (0 : UInt8)).toNat :
                                                                            Int)).set
                                                                      0
                                                                      (IntKind.u8.wrap
                                                                        (IntKind.u32.wrap
                                                                          (48 +
                                                                            IntKind.u32.wrap
                                                                              ((IntKind.u32.wrap
                                                                                    ((IntKind.u32.wrap y.1.2.1).tdiv
                                                                                      10000)).tdiv
                                                                                100)))),
                                                                    ())
                                                              else none
                                                            else
                                                              some
                                                                ((y.1.1, ()),
                                                                  (((((List.set y.2.1
                                                                                        (0 +
                                                                                          (IntKind.i64.wrap
                                                                                              (y.1.2.2.1 - 1)).toNat)
                                                                                        (↑(tbEQ01_1.getD
                                                                                                (IntKind.u32.wrap
                                                                                                    (IntKind.u32.wrap
                                                                                                        (((IntKind.u32.wrap
                                                                                                                    y.1.2.1).tmod
                                                                                                                10000).tmod
                                                                                                            100 *
                                                                                                          2) +
                                                                                                      1)).toNat
                                                                                                (0 : UInt8)).toNat :
                                                                                          Int)).set
                                                                                    (0 +
                                                                                      (IntKind.i64.wrap
                                                                                          (y.1.2.2.1 - 2)).toNat)
                                                                                    (↑(tbEQ01_1.getD
                                                                                            (IntKind.u32.wrap
                                                                                                (((IntKind.u32.wrap
                                                                                                            y.1.2.1).tmod
                                                                                                        10000).tmod
                                                                                                    100 *
                                                                                                  2)).toNat
                                                                                            (0 : UInt8)).toNat :
                                                                                      Int)).set
                                                                                (0 +
                                                                                  (IntKind.i64.wrap
                                                                                      (y.1.2.2.1 - 3)).toNat)
                                                                                (↑(tbEQ01_1.getD
                                                                                        (IntKind.u32.wrap
                                                                                            (IntKind.u32.wrap
                                                                                                (IntKind.u32.wrap
                                                                                                    (((IntKind.u32.wrap
                                                                                                              y.1.2.1).tmod
                                                                                                          10000).tdiv
                                                                                                      100) *
                                                                                                  2) +
                                                                                              1)).toNat
                                                                                        (0 : UInt8)).toNat :
                                                                                  Int)).set
                                                                            (0 + (IntKind.i64.wrap (y.1.2.2.1 - 4)).toNat)
                                                                            (↑(tbEQ01_1.getD
                                                                                    (IntKind.u32.wrap
                                                                                        (IntKind.u32.wrap
                                                                                            (((IntKind.u32.wrap
                                                                                                      y.1.2.1).tmod
                                                                                                  10000).tdiv
                                                                                              100) *
                                                                                          2)).toNat
                                                                                    (0 : UInt8)).toNat :
                                                                              Int)).set
                                                                        (0 +
                                                                          (IntKind.i64.wrap
                                                                              (IntKind.i64.wrap (y.1.2.2.1 - 4) -
                                                                                1)).toNat)
                                                                        (↑(tbEQ01_1.getD
                                                                                (IntKind.u32.wrap
                                                                                    (IntKind.u32.wrap
                                                                                        ((IntKind.u32.wrap
                                                                                                ((IntKind.u32.wrap
                                                                                                      y.1.2.1).tdiv
                                                                                                  10000)).tmod
                                                                                            100 *
                                                                                          2) +
                                                                                      1)).toNat
                                                                                (0 : UInt8)).toNat :
                                                                          Int)).set
                                                                    (0 +
                                                                      (IntKind.i64.wrap
                                                                          (IntKind.i64.wrap (y.1.2.2.1 - 4) - 2)).toNat)
                                                                    (↑(tbEQ01_1.getD
                                                                            (IntKind.u32.wrap
                                                                                ((IntKind.u32.wrap
                                                                                        ((IntKind.u32.wrap y.1.2.1).tdiv
                                                                                          10000)).tmod
                                                                                    100 *
                                                                                  2)).toNat
                                                                            (0 : UInt8)).toNat :
                                                                      Int),
                                                                  ())
                                                          else none
                                                        else none
                                                      else none
                                                    else none
                                                  else none
                                                else none
                                              else none
                                            else none
                                          else
                                            if decide (IntKind.i64.wrap (y.1.2.2.1 - 4) > 0) = true then
                                              if 0 < (↑y.1.1 : Int) then
                                                some
                                                  ((y.1.1, ()),
                                                    ((((List.set y.2.1 (0 + (IntKind.i64.wrap (y.1.2.2.1 - 1)).toNat)
                                                                      (↑(tbEQ01_1.getD
                                                                              (IntKind.u32.wrap
                                                                                  (IntKind.u32.wrap
                                                                                      (((IntKind.u32.wrap y.1.2.1).tmod
                                                                                              10000).tmod
                                                                                          100 *
                                                                                        2) +
                                                                                    1)).toNat
                                                                              (0 : UInt8)).toNat :
                                                                        Int)).set
                                                                  (0 + (IntKind.i64.wrap (y.1.2.2.1 - 2)).toNat)
                                                                  (↑(tbEQ01_1.getD
                                                                          (IntKind.u32.wrap
                                                                              (((IntKind.u32.wrap y.1.2.1).tmod
                                                                                      10000).tmod
                                                                                  100 *
                                                                                2)).toNat
                                                                          (0 : UInt8)).toNat :
                                                                    Int)).set
                                                              (0 + (IntKind.i64.wrap (y.1.2.2.1 - 3)).toNat)
                                                              (↑(tbEQ01_1.getD
                                                                      (IntKind.u32.wrap
                                                                          (IntKind.u32.wrap
                                                                              (IntKind.u32.wrap
                                                                                  (((IntKind.u32.wrap y.1.2.1).tmod
                                                                                        10000).tdiv
                                                                                    100) *
                                                                                2) +
                                                                            1)).toNat
                                                                      (0 : UInt8)).toNat :
                                                                Int)).set
                                                          (0 + (IntKind.i64.wrap (y.1.2.2.1 - 4)).toNat)
                                                          (↑(tbEQ01_1.getD
                                                                  (IntKind.u32.wrap
                                                                      (IntKind.u32.wrap
                                                                          (((IntKind.u32.wrap y.1.2.1).tmod 10000).tdiv
                                                                            100) *
                                                                        2)).toNat
                                                                  (0 : UInt8)).toNat :
                                                            Int)).set
                                                      0
                                                      (IntKind.u8.wrap
                                                        (IntKind.u32.wrap
                                                          (48 +
                                                            IntKind.u32.wrap ((IntKind.u32.wrap y.1.2.1).tdiv 10000)))),
                                                    ())
                                              else none
                                            else
                                              some
                                                ((y.1.1, ()),
                                                  (((List.set y.2.1 (0 + (IntKind.i64.wrap (y.1.2.2.1 - 1)).toNat)
                                                                (↑(tbEQ01_1.getD
                                                                        (IntKind.u32.wrap
                                                                            (IntKind.u32.wrap
                                                                                (((IntKind.u32.wrap y.1.2.1).tmod
                                                                                        10000).tmod
                                                                                    100 *
                                                                                  2) +
                                                                              1)).toNat
                                                                        (0 : UInt8)).toNat :
                                                                  Int)).set
                                                            (0 + (IntKind.i64.wrap (y.1.2.2.1 - 2)).toNat)
                                                            (↑(tbEQ01_1.getD
                                                                    (IntKind.u32.wrap
                                                                        (((IntKind.u32.wrap y.1.2.1).tmod 10000).tmod
                                                                            100 *
                                                                          2)).toNat
                                                                    (0 : UInt8)).toNat :
                                                              Int)).set
                                                        (0 + (IntKind.i64.wrap (y.1.2.2.1 - 3)).toNat)
                                                        (↑(tbEQ01_1.getD
                                                                (IntKind.u32.wrap
                                                                    (IntKind.u32.wrap
                                                                        (IntKind.u32.wrap
                                                                            (((IntKind.u32.wrap y.1.2.1).tmod 10000).tdiv
                                                                              100) *
                                                                          2) +
                                                                      1)).toNat
                                                                (0 : UInt8)).toNat :
                                                          Int)).set
                                                    (0 + (IntKind.i64.wrap (y.1.2.2.1 - 4)).toNat)
                                                    (↑(tbEQ01_1.getD
                                                            (IntKind.u32.wrap
                                                                (IntKind.u32.wrap
                                                                    (((IntKind.u32.wrap y.1.2.1).tmod 10000).tdiv 100) *
                                                                  2)).toNat
                                                            (0 : UInt8)).toNat :
                                                      Int),
                                                  ())
                                        else none
                                      else none
                                    else none
                                  else none
                                else none
                              else none
                            else none
                          else none
                        else none
                      else none
                    else none
                  else none
                else none
              else none
            else none
          else none
        else
          if decide (y.1.2.2.1 ≥ 2) = true then
            if 0 ≤ IntKind.u32.wrap (IntKind.u32.wrap ((IntKind.u32.wrap y.1.2.1).tmod 100 * 2) + 1) then
              if IntKind.u32.wrap (IntKind.u32.wrap ((IntKind.u32.wrap y.1.2.1).tmod 100 * 2) + 1) < (↑200 : Int) then
                if 0 ≤ IntKind.u32.wrap ((IntKind.u32.wrap y.1.2.1).tmod 100 * 2) then
                  if IntKind.u32.wrap ((IntKind.u32.wrap y.1.2.1).tmod 100 * 2) < (↑200 : Int) then
                    if 0 ≤ IntKind.i64.wrap (y.1.2.2.1 - 1) then
                      if IntKind.i64.wrap (y.1.2.2.1 - 1) < (↑y.1.1 : Int) then
                        if 0 ≤ IntKind.i64.wrap (y.1.2.2.1 - 2) then
                          if IntKind.i64.wrap (y.1.2.2.1 - 2) < (↑y.1.1 : Int) then
                            if decide (IntKind.i64.wrap (y.1.2.2.1 - 2) > 0) = true then
                              if 0 < (↑y.1.1 : Int) then
                                some
                                  ((y.1.1, ()),
                                    ((List.set y.2.1 (0 + (IntKind.i64.wrap (y.1.2.2.1 - 1)).toNat)
                                              (↑(tbEQ01_1.getD
                                                      (IntKind.u32.wrap
                                                          (IntKind.u32.wrap ((IntKind.u32.wrap y.1.2.1).tmod 100 * 2) +
                                                            1)).toNat
                                                      (0 : UInt8)).toNat :
                                                Int)).set
                                          (0 + (IntKind.i64.wrap (y.1.2.2.1 - 2)).toNat)
                                          (↑(tbEQ01_1.getD
                                                  (IntKind.u32.wrap ((IntKind.u32.wrap y.1.2.1).tmod 100 * 2)).toNat
                                                  (0 : UInt8)).toNat :
                                            Int)).set
                                      0
                                      (IntKind.u8.wrap
                                        (IntKind.u32.wrap (48 + IntKind.u32.wrap ((IntKind.u32.wrap y.1.2.1).tdiv 100)))),
                                    ())
                              else none
                            else
                              some
                                ((y.1.1, ()),
                                  (List.set y.2.1 (0 + (IntKind.i64.wrap (y.1.2.2.1 - 1)).toNat)
                                        (↑(tbEQ01_1.getD
                                                (IntKind.u32.wrap
                                                    (IntKind.u32.wrap ((IntKind.u32.wrap y.1.2.1).tmod 100 * 2) +
                                                      1)).toNat
                                                (0 : UInt8)).toNat :
                                          Int)).set
                                    (0 + (IntKind.i64.wrap (y.1.2.2.1 - 2)).toNat)
                                    (↑(tbEQ01_1.getD
                                            (IntKind.u32.wrap ((IntKind.u32.wrap y.1.2.1).tmod 100 * 2)).toNat
                                            (0 : UInt8)).toNat :
                                      Int),
                                  ())
                          else none
                        else none
                      else none
                    else none
                  else none
                else none
              else none
            else none
          else
            if decide (y.1.2.2.1 > 0) = true then
              if 0 < (↑y.1.1 : Int) then
                some
                  ((y.1.1, ()), List.set y.2.1 0 (IntKind.u8.wrap (IntKind.u32.wrap (48 + IntKind.u32.wrap y.1.2.1))), ())
              else none
            else some ((y.1.1, ()), y.2.1, ())).bind
    fun z => if (rw0.length.beq (List.length z.2.1) && true) = true then some z else none : Option rs128z.den) := by kernel_rfl
theorem F98_eq (F126 : (SV.denL ps126) → Option (rs126).den) (F127 : (SV.denL ps127) → Option (rs127).den) (F128z : (psh128z.den) → Option (rs128z).den) (i0 : Int) (base1 : Int) : F98 F126 F127 F128z (i0, base1, ()) = (
  if (base1 == 10) = true then
    if decide (i0 < 100) = true then (F126 (IntKind.i64.wrap i0, ())).bind fun y => some ((y.1.1, ()), ())
    else
      (F127 (i0, ())).bind fun y =>
        if 0 ≤ y.1.1 then
          if y.1.1 ≤ (↑24 : Int) then
            (F128z
                  ((Int.toNat y.1.1 - 0, i0, ()),
                    [0, 0, 0, 0, 0, 0, 0, 0, 0, 0, 0, 0, 0, 0, 0, 0, 0, 0, 0, 0, 0, 0, 0, 0], ())).bind
              fun z =>
              if 24 = List.length z.2.1 then
                if 0 ≤ y.1.1 then
                  if y.1.1 ≤ (↑24 : Int) then
                    some ((List.map (fun n => UInt8.ofNat n.toNat) (List.take (Int.toNat y.1.1 - 0) z.2.1), ()), ())
                  else none
                else none
              else none
          else none
        else none
  else none : Option rs98.den) := by kernel_rfl
theorem F58_eq (F98 : (SV.denL ps98) → Option (rs98).den) (i0 : Int) (base1 : Int) : F58 F98 (i0, base1, ()) = (
  (F98 (i0, base1, ())).bind fun y => some ((y.1.1, ()), ()) : Option rs58.den) := by kernel_rfl
theorem F44_eq (F57 : (SV.denL ps57) → Option (rs57).den) (F58 : (SV.denL ps58) → Option (rs58).den) (t0_0 : Int) (t0_1 : Bool) : F44 F57 F58 ((t0_0, t0_1), ()) = (
  if (!t0_1) = true then
    (F57 (t0_0, ())).bind fun y =>
      (F58 (y.1.1, 10, ())).bind fun y => some ((([(48 : UInt8)], y.1.1), ()), ())
  else
    if IntKind.i64.wrap (t0_0 - 1) < 0 then none
    else
      (F58 (IntKind.u64.wrap (1 * 2 ^ min (IntKind.i64.wrap (t0_0 - 1)).toNat 64), 10, ())).bind fun y =>
        if 1 + List.length y.1.1 ≤ 4294967296 then
          (F57 (IntKind.i64.wrap (t0_0 - 1), ())).bind fun y_1 =>
            (F58 (y_1.1.1, 10, ())).bind fun y_2 =>
              some ((([(45 : UInt8)] ++ y.1.1, y_2.1.1), ()), ())
        else none : Option rs44.den) := by kernel_rfl
theorem S55_2_eq (t5 : List Int) (t6 : Int) (t7 : Int) : S55_2 ((t5, t6, t7, ()), ()) = (
  if decide (t7 < t6) = true then
    if 0 ≤ t7 then
      if t7 < (↑t5.length : Int) then
        if (!t5.getD t7.toNat 0 == 0) = true then some (Sum.inr (Sum.inl ((t5.getD t7.toNat 0, ()), ())))
        else some (Sum.inl ((t5, t6, IntKind.i64.wrap (t7 + 1), ()), ()))
      else none
    else none
  else some (Sum.inr (Sum.inr ((), ()))) : Option (sh55_2.den ⊕ denX w55_2)) := by kernel_rfl
theorem F55_eq (g55_2 : sh55_2.den → Option (denX w55_2)) (l0 : List Int) : F55 g55_2 (l0, ()) = (
  (g55_2 ((l0, (↑l0.length : Int), 0, ()), ())).bind fun y =>
    Sum.elim (fun y => some ((y.1.1, ()), ())) (fun z => some ((0, ()), ())) y : Option rs55.den) := by kernel_rfl
theorem F56_eq (is0 : Bool) (e1 : Int) : F56 (is0, e1, ()) = (
  if is0 = true then some ((e1, ()), ()) else some ((0, ()), ()) : Option rs56.den) := by kernel_rfl
theorem F100_eq (s0 : List UInt8) (prefix1 : List UInt8) : F100 (s0, prefix1, ()) = (
  if decide ((↑s0.length : Int) ≥ (↑prefix1.length : Int)) = true then
    if (↑prefix1.length : Int) ≤ (↑s0.length : Int) then
      some ((List.take (↑prefix1.length : Int).toNat s0 == prefix1, ()), ())
    else none
  else some ((false, ()), ()) : Option rs100.den) := by kernel_rfl
theorem F120_eq (F100 : (SV.denL ps100) → Option (rs100).den) (s0 : List UInt8) (prefix1 : List UInt8) : F120 F100 (s0, prefix1, ()) = (
  (F100 (s0, prefix1, ())).bind fun y =>
    if (!y.1.1) = true then some ((s0, false, ()), ())
    else
      if (↑prefix1.length : Int) ≤ (↑s0.length : Int) then
        if (↑s0.length : Int) ≤ (↑s0.length : Int) then some ((List.drop (↑prefix1.length : Int).toNat s0, true, ()), ())
        else none
      else none : Option rs120.den) := by kernel_rfl
theorem F88_eq (F120 : (SV.denL ps120) → Option (rs120).den) (s0 : List UInt8) (prefix1 : List UInt8) : F88 F120 (s0, prefix1, ()) = (
  (F120 (s0, prefix1, ())).bind fun y => some ((y.1.1, y.1.2.1, ()), ()) : Option rs88.den) := by kernel_rfl
theorem F41_eq (F55 : (SV.denL ps55) → Option (rs55).den) (F56 : (SV.denL ps56) → Option (rs56).den) (F88 : (SV.denL ps88) → Option (rs88).den) (F89 : (SV.denL ps89) → Option (rs89).den) (s0 : List UInt8) : F41 F55 F56 F88 F89 (s0, ()) = (
  (F88 (s0, [(45 : UInt8)], ())).bind fun y =>
    (F89 (y.1.1, ())).bind fun y_1 =>
      if (!y_1.1.1) = true then
        (F56 (true, 1, ())).bind fun y_2 =>
          (F56 (decide ((↑(List.length y.1.1) : Int) > 100), 4, ())).bind fun y =>
            (F55 ([y_2.1.1, y.1.1], ())).bind fun y => some ((y.1.1, ()), ())
      else
        if y.1.2.1 = true then
          (F56 (y.1.1 == [(48 : UInt8)], 1, ())).bind fun y_2 =>
            (F56 (decide ((↑(List.length y.1.1) : Int) > 100), 4, ())).bind fun y =>
              (F55 ([y_2.1.1, y.1.1], ())).bind fun y => some ((y.1.1, ()), ())
        else
          (F56 (false, 1, ())).bind fun y_2 =>
            (F56 (decide ((↑(List.length y.1.1) : Int) > 100), 4, ())).bind fun y =>
              (F55 ([y_2.1.1, y.1.1], ())).bind fun y => some ((y.1.1, ()), ()) : Option rs41.den) := by kernel_rfl
theorem S101_1_eq (l0 : List Int) : S101_1 ((l0, ()), ()) = (
  if decide ((↑l0.length : Int) > 0) = true then
    if 0 ≤ IntKind.i64.wrap ((↑l0.length : Int) - 1) then
      if IntKind.i64.wrap ((↑l0.length : Int) - 1) < (↑l0.length : Int) then
        if (l0.getD (IntKind.i64.wrap ((↑l0.length : Int) - 1)).toNat 0 == 0) = true then
          if 0 ≤ IntKind.i64.wrap ((↑l0.length : Int) - 1) then
            if IntKind.i64.wrap ((↑l0.length : Int) - 1) ≤ (↑l0.length : Int) then
              some (Sum.inl ((List.take (IntKind.i64.wrap ((↑l0.length : Int) - 1)).toNat l0, ()), ()))
            else none
          else none
        else some (Sum.inr ((l0, ()), ()))
      else none
    else none
  else some (Sum.inr ((l0, ()), ())) : Option (sh101_1.den ⊕ denX w101_1)) := by kernel_rfl
theorem F101_eq (g101_1 : sh101_1.den → Option (denX w101_1)) (l0 : List Int) : F101 g101_1 (l0, ()) = (
  (g101_1 ((l0, ()), ())).bind fun y => some ((y.1.1, ()), ()) : Option rs101.den) := by kernel_rfl
theorem F115_eq (F101 : (SV.denL ps101) → Option (rs101).den) (n0_0 : Bool) (n0_1 : List Int) : F115 F101 ((n0_0, n0_1), ()) = (
  (F101 (n0_1, ())).bind fun y =>
    if n0_0 = true then some (((decide ((↑(List.length y.1.1) : Int) > 0), y.1.1), ()), ())
    else some (((false, y.1.1), ()), ()) : Option rs115.den) := by kernel_rfl
theorem F118_eq (s0 : List UInt8) : F118 (s0, ()) = (
  some ((((), ()), ()), (s0, ()), ()) : Option rs118.den) := by kernel_rfl
theorem S81_4_eq (F90 : (SV.denL ps90) → Option (rs90).den) (e : List UInt8) (b0_0 : Bool) (b0_1 : List Int) (b1_0 : Bool) (rw2 : List Int) : S81_4 F90 e (((), (), ()), ((b0_0, b0_1, ()), (b1_0, (), ()), rw2, ())) = (
  (F90 (e, ())).bind fun y =>
    if rw2.length + [IntKind.u32.wrap y.1.1].length ≤ 4294967296 then
      some (Sum.inl (((), (), ()), (b0_0, b0_1, ()), (b1_0, (), ()), rw2 ++ [IntKind.u32.wrap y.1.1], ()))
    else none : Option (sh81_4.den ⊕ denX w81_4)) := by kernel_rfl
theorem F81_eq (F88 : (SV.denL ps88) → Option (rs88).den) (F115 : (SV.denL ps115) → Option (rs115).den) (F118 : (SV.denL ps118) → Option (rs118).den) (D142 : Dt142) (g81_4 : List El142 → sh81_4.den → Option (sh81_4.den ⊕ denX w81_4)) (s0 : List UInt8) : F81 F88 F115 F118 D142 g81_4 (s0, ()) = (
  (F88 (s0, [(45 : UInt8)], ())).bind fun y =>
    (F118 (y.1.1, ())).bind fun y_1 =>
      (D142 (((), ()), (y_1.2.1.1, ()), ())).bind fun xs =>
        (g81_4 xs (((), (), ()), (false, [], ()), (y.1.2.1, (), ()), [], ())).bind fun y =>
          Sum.elim (fun x' => (F115 ((x'.2.2.1.1, x'.2.2.2.1), ())).bind fun y => some (((y.1.1.1, y.1.1.2), ()), ()))
            (fun z => none) y : Option rs81.den) := by kernel_rfl
theorem F47_eq (F41 : (SV.denL ps41) → Option (rs41).den) (F42 : (SV.denL ps42) → Option (rs42).den) (F55 : (SV.denL ps55) → Option (rs55).den) (F81 : (SV.denL ps81) → Option (rs81).den) (typ0 : List UInt8) (s1 : List UInt8) : F47 F41 F42 F55 F81 (typ0, s1, ()) = (
  (F42 (typ0, ())).bind fun y =>
    (F41 (s1, ())).bind fun y_1 =>
      (F55 ([y.1.2.1, y_1.1.1], ())).bind fun y_2 =>
        if (!y_2.1.1 == 0) = true then some (((0, false), (false, []), y_2.1.1, ()), ())
        else (F81 (s1, ())).bind fun y_3 => some (((y.1.1.1.1, y.1.1.1.2), (y_3.1.1.1, y_3.1.1.2), 0, ()), ()) : Option rs47.den) := by kernel_rfl
theorem F148_eq (x0 : Int) : F148 (x0, ()) = (
  some ((!x0 == x0, ()), ()) : Option rs148.den) := by kernel_rfl
theorem F123_eq (F148 : (SV.denL ps148) → Option (rs148).den) (x0 : Int) (y1 : Int) : F123 F148 (x0, y1, ()) = (
  (F148 (x0, ())).bind fun y =>
    (F148 (y1, ())).bind fun y_1 =>
      if y.1.1 = true then if y_1.1.1 = true then some ((0, ()), ()) else some ((-1, ()), ())
      else
        if y_1.1.1 = true then some ((1, ()), ())
        else
          if decide (x0 < y1) = true then some ((-1, ()), ())
          else if decide (x0 > y1) = true then some ((1, ()), ()) else some ((0, ()), ()) : Option rs123.den) := by kernel_rfl
theorem F149_eq (x0 : Int) : F149 (x0, ()) = (
  some ((!x0 == x0, ()), ()) : Option rs149.den) := by kernel_rfl
theorem F124_eq (F149 : (SV.denL ps149) → Option (rs149).den) (x0 : Int) (y1 : Int) : F124 F149 (x0, y1, ()) = (
  (F149 (x0, ())).bind fun y =>
    (F149 (y1, ())).bind fun y_1 =>
      if y.1.1 = true then if y_1.1.1 = true then some ((0, ()), ()) else some ((-1, ()), ())
      else
        if y_1.1.1 = true then some ((1, ()), ())
        else
          if decide (x0 < y1) = true then some ((-1, ()), ())
          else if decide (x0 > y1) = true then some ((1, ()), ()) else some ((0, ()), ()) : Option rs124.den) := by kernel_rfl
theorem S94_5_eq (F124 : (SV.denL ps124) → Option (rs124).den) (a0 : List Int) (b1 : List Int) (i6 : Int) : S94_5 F124 ((a0, b1, i6, ()), ()) = (
  if decide (i6 ≥ 0) = true then
    if 0 ≤ i6 then
      if i6 < (↑a0.length : Int) then
        if 0 ≤ i6 then
          if i6 < (↑b1.length : Int) then
            (F124 (a0.getD i6.toNat 0, b1.getD i6.toNat 0, ())).bind fun y =>
              if (!y.1.1 == 0) = true then some (Sum.inr (Sum.inl ((y.1.1, ()), ())))
              else some (Sum.inl ((a0, b1, IntKind.i64.wrap (i6 - 1), ()), ()))
          else none
        else none
      else none
    else none
  else some (Sum.inr (Sum.inr ((), ()))) : Option (sh94_5.den ⊕ denX w94_5)) := by kernel_rfl
theorem F94_eq (F123 : (SV.denL ps123) → Option (rs123).den) (g94_5 : sh94_5.den → Option (denX w94_5)) (a0 : List Int) (b1 : List Int) : F94 F123 g94_5 (a0, b1, ()) = (
  (F123 ((↑a0.length : Int), (↑b1.length : Int), ())).bind fun y =>
    if (!y.1.1 == 0) = true then some ((y.1.1, ()), ())
    else
      (g94_5 ((a0, b1, IntKind.i64.wrap ((↑a0.length : Int) - 1), ()), ())).bind fun y =>
        Sum.elim (fun y => some ((y.1.1, ()), ())) (fun z => some ((0, ()), ())) y : Option rs94.den) := by kernel_rfl
theorem F49_eq (F94 : (SV.denL ps94) → Option (rs94).den) (n0_0 : Bool) (n0_1 : List Int) (m1_0 : Bool) (m1_1 : List Int) : F49 F94 ((n0_0, n0_1), (m1_0, m1_1), ()) = (
  if (!n0_0 == m1_0) = true then if n0_0 = true then some ((-1, ()), ()) else some ((1, ()), ())
  else
    (F94 (n0_1, m1_1, ())).bind fun y =>
      if n0_0 = true then some ((IntKind.i64.wrap (0 - y.1.1), ()), ()) else some ((y.1.1, ()), ()) : Option rs49.den) := by kernel_rfl
theorem F48_eq (F44 : (SV.denL ps44) → Option (rs44).den) (F49 : (SV.denL ps49) → Option (rs49).den) (F81 : (SV.denL ps81) → Option (rs81).den) (t0_0 : Int) (t0_1 : Bool) (n1_0 : Bool) (n1_1 : List Int) : F48 F44 F49 F81 ((t0_0, t0_1), (n1_0, n1_1), ()) = (
  (F44 ((t0_0, t0_1), ())).bind fun y =>
    (F81 (y.1.1.1, ())).bind fun y_1 =>
      (F81 (y.1.1.2, ())).bind fun y =>
        (F49 ((n1_0, n1_1), (y_1.1.1.1, y_1.1.1.2), ())).bind fun y_2 =>
          if decide (y_2.1.1 < 0) = true then some (((y_1.1.1.1, y_1.1.1.2), ()), ())
          else
            (F49 ((n1_0, n1_1), (y.1.1.1, y.1.1.2), ())).bind fun y_3 =>
              if decide (y_3.1.1 > 0) = true then some (((y.1.1.1, y.1.1.2), ()), ()) else some (((n1_0, n1_1), ()), ()) : Option rs48.den) := by kernel_rfl
theorem F95_eq (s0 : List Int) : F95 (s0, ()) = (
  some ((((), ()), ()), (s0, ()), ()) : Option rs95.den) := by kernel_rfl
theorem S50_3_eq (e0 : Int) (e1 : Int) (b0_0 : Int) (b0_1 : Bool) (b1_0 : Bool) (b1_1 : List Int) (b2_0 : Int) : S50_3 (e0, e1) (((), (), (), ()), ((b0_0, b0_1, ()), (b1_0, b1_1, ()), (b2_0, ()), ())) = (
  some
    (Sum.inl
      (((), (), (), ()), (b0_0, b0_1, ()), (b1_0, b1_1, ()),
        (IntKind.u64.wrap (IntKind.u64.wrap (b2_0 * 1000000000) + IntKind.u64.wrap e1), ()), ())) : Option (sh50_3.den ⊕ denX w50_3)) := by kernel_rfl
theorem F50_eq (F57 : (SV.denL ps57) → Option (rs57).den) (F95 : (SV.denL ps95) → Option (rs95).den) (D125 : Dt125) (g50_3 : List El125 → sh50_3.den → Option (sh50_3.den ⊕ denX w50_3)) (t0_0 : Int) (t0_1 : Bool) (n1_0 : Bool) (n1_1 : List Int) : F50 F57 F95 D125 g50_3 ((t0_0, t0_1), (n1_0, n1_1), ()) = (
  (F95 (n1_1, ())).bind fun y =>
    (D125 (((), ()), (y.2.1.1, ()), ())).bind fun xs =>
      (g50_3 xs (((), (), (), ()), (t0_0, t0_1, ()), (n1_0, n1_1, ()), (0, ()), ())).bind fun y =>
        Sum.elim
          (fun x' =>
            if x'.2.2.1.1 = true then
              (F57 (x'.2.1.1, ())).bind fun y =>
                some ((bitop BinOp.and IntKind.u64 (IntKind.u64.wrap (0 - x'.2.2.2.1.1)) y.1.1, ()), ())
            else (F57 (x'.2.1.1, ())).bind fun y => some ((bitop BinOp.and IntKind.u64 x'.2.2.2.1.1 y.1.1, ()), ()))
          (fun z => none) y : Option rs50.den) := by kernel_rfl
theorem F17_eq (F47 : (SV.denL ps47) → Option (rs47).den) (F48 : (SV.denL ps48) → Option (rs48).den) (F49 : (SV.denL ps49) → Option (rs49).den) (F50 : (SV.denL ps50) → Option (rs50).den) (typ0 : List UInt8) (s1 : List UInt8) : F17 F47 F48 F49 F50 (typ0, s1, ()) = (
  (F47 (typ0, s1, ())).bind fun y =>
    if (!y.1.2.2.1 == 0) = true then some ((0, y.1.2.2.1, ()), ())
    else
      (F48 ((y.1.1.1, y.1.1.2), (y.1.2.1.1, y.1.2.1.2), ())).bind fun y_1 =>
        (F49 ((y_1.1.1.1, y_1.1.1.2), (y.1.2.1.1, y.1.2.1.2), ())).bind fun y_2 =>
          if (!y_2.1.1 == 0) = true then some ((0, 35, ()), ())
          else (F50 ((y.1.1.1, y.1.1.2), (y.1.2.1.1, y.1.2.1.2), ())).bind fun y => some ((y.1.1, 0, ()), ()) : Option rs17.den) := by kernel_rfl
theorem F19_eq (F42 : (SV.denL ps42) → Option (rs42).den) (F55 : (SV.denL ps55) → Option (rs55).den) (F56 : (SV.denL ps56) → Option (rs56).den) (F57 : (SV.denL ps57) → Option (rs57).den) (F58 : (SV.denL ps58) → Option (rs58).den) (typ0 : List UInt8) (bits1 : Int) : F19 F42 F55 F56 F57 F58 (typ0, bits1, ()) = (
  (F42 (typ0, ())).bind fun y =>
    (F57 (y.1.1.1.1, ())).bind fun y_1 =>
      (F56 (!bitop BinOp.andNot IntKind.u64 bits1 y_1.1.1 == 0, 3, ())).bind fun y_2 =>
        (F55 ([y.1.2.1, y_2.1.1], ())).bind fun y_3 =>
          if (!y_3.1.1 == 0) = true then some (([], y_3.1.1, ()), ())
          else
            if y.1.1.1.2 = true then
              if IntKind.i64.wrap (y.1.1.1.1 - 1) < 0 then none
              else
                if (bits1.fdiv (2 ^ min (IntKind.i64.wrap (y.1.1.1.1 - 1)).toNat 64) == 1) = true then
                  (F57 (y.1.1.1.1, ())).bind fun y =>
                    (F58 (bitop BinOp.and IntKind.u64 (IntKind.u64.wrap (0 - bits1)) y.1.1, 10, ())).bind fun y =>
                      if 1 + List.length y.1.1 ≤ 4294967296 then
                        some (([(45 : UInt8)] ++ y.1.1, 0, ()), ())
                      else none
                else (F58 (bits1, 10, ())).bind fun y => some ((y.1.1, 0, ()), ())
            else (F58 (bits1, 10, ())).bind fun y => some ((y.1.1, 0, ()), ()) : Option rs19.den) := by kernel_rfl
theorem F21_eq (F47 : (SV.denL ps47) → Option (rs47).den) (F50 : (SV.denL ps50) → Option (rs50).den) (typ0 : List UInt8) (s1 : List UInt8) : F21 F47 F50 (typ0, s1, ()) = (
  (F47 (typ0, s1, ())).bind fun y =>
    if (!y.1.2.2.1 == 0) = true then some ((0, y.1.2.2.1, ()), ())
    else (F50 ((y.1.1.1, y.1.1.2), (y.1.2.1.1, y.1.2.1.2), ())).bind fun y => some ((y.1.1, 0, ()), ()) : Option rs21.den) := by kernel_rfl
theorem F23_eq (F47 : (SV.denL ps47) → Option (rs47).den) (F48 : (SV.denL ps48) → Option (rs48).den) (F50 : (SV.denL ps50) → Option (rs50).den) (typ0 : List UInt8) (s1 : List UInt8) : F23 F47 F48 F50 (typ0, s1, ()) = (
  (F47 (typ0, s1, ())).bind fun y =>
    if (!y.1.2.2.1 == 0) = true then some ((0, y.1.2.2.1, ()), ())
    else
      (F48 ((y.1.1.1, y.1.1.2), (y.1.2.1.1, y.1.2.1.2), ())).bind fun y_1 =>
        (F50 ((y.1.1.1, y.1.1.2), (y_1.1.1.1, y_1.1.1.2), ())).bind fun y => some ((y.1.1, 0, ()), ()) : Option rs23.den) := by kernel_rfl
theorem F59_eq (is0 : Bool) (e1 : Int) : F59 (is0, e1, ()) = (
  if is0 = true then some ((e1, ()), ()) else some ((0, ()), ()) : Option rs59.den) := by kernel_rfl
theorem F72_eq (c0 : Int) : F72 (c0, ()) = (
  if decide (c0 ≥ 48) = true then some ((decide (c0 ≤ 57), ()), ()) else some ((false, ()), ()) : Option rs72.den) := by kernel_rfl
theorem S91_5_eq (F72 : (SV.denL ps72) → Option (rs72).den) (s0 : List UInt8) (n4 : Int) (i5 : Int) : S91_5 F72 ((s0, n4, i5, ()), ()) = (
  if decide (i5 < (↑s0.length : Int)) = true then
    if 0 ≤ i5 then
      if i5 < (↑s0.length : Int) then
        (F72 ((↑(s0.getD i5.toNat (0 : UInt8)).toNat : Int), ())).bind fun y =>
          if (!y.1.1) = true then some (Sum.inr (Sum.inl ((0, false, ()), ())))
          else
            if 0 ≤ i5 then
              if i5 < (↑s0.length : Int) then
                some
                  (Sum.inl
                    ((s0,
                        IntKind.i64.wrap
                          (IntKind.i64.wrap (10 * n4) +
                            IntKind.i64.wrap
                              (IntKind.u8.wrap
                                ((↑(s0.getD i5.toNat (0 : UInt8)).toNat : Int) - 48))),
                        IntKind.i64.wrap (i5 + 1), ()),
                      ()))
              else none
            else none
      else none
    else none
  else some (Sum.inr (Sum.inr ((n4, ()), ()))) : Option (sh91_5.den ⊕ denX w91_5)) := by kernel_rfl
theorem F91_eq (g91_5 : sh91_5.den → Option (denX w91_5)) (s0 : List UInt8) : F91 g91_5 (s0, ()) = (
  if (s0 == []) = true then some ((0, false, ()), ())
  else
    if decide ((↑s0.length : Int) > 15) = true then some ((0, false, ()), ())
    else
      if decide ((↑s0.length : Int) > 1) = true then
        if 0 < (↑s0.length : Int) then
          if ((↑(s0.getD 0 (0 : UInt8)).toNat : Int) == 48) = true then some ((0, false, ()), ())
          else
            (g91_5 ((s0, 0, 0, ()), ())).bind fun y =>
              Sum.elim (fun y => some ((y.1.1, y.1.2.1, ()), ())) (fun z => some ((z.1.1, true, ()), ())) y
        else none
      else
        (g91_5 ((s0, 0, 0, ()), ())).bind fun y =>
          Sum.elim (fun y => some ((y.1.1, y.1.2.1, ()), ())) (fun z => some ((z.1.1, true, ()), ())) y : Option rs91.den) := by kernel_rfl
theorem F43_eq (F59 : (SV.denL ps59) → Option (rs59).den) (F91 : (SV.denL ps91) → Option (rs91).den) (typ0 : List UInt8) : F43 F59 F91 (typ0, ()) = (
  if (typ0 == []) = true then some ((false, 0, 6, ()), ())
  else
    if 0 < (↑typ0.length : Int) then
      if (!(↑(typ0.getD 0 (0 : UInt8)).toNat : Int) == 117) = true then
        if 0 < (↑typ0.length : Int) then
          if (!(↑(typ0.getD 0 (0 : UInt8)).toNat : Int) == 105) = true then
            some ((false, 0, 6, ()), ())
          else
            if decide ((↑typ0.length : Int) > 4) = true then some ((false, 0, 6, ()), ())
            else
              if 1 ≤ (↑typ0.length : Int) then
                if (↑typ0.length : Int) ≤ (↑typ0.length : Int) then
                  (F91 (List.drop 1 typ0, ())).bind fun y =>
                    if (!y.1.2.1) = true then some ((false, 0, 6, ()), ())
                    else
                      if 0 < (↑typ0.length : Int) then
                        if decide (y.1.1 > 64) = true then
                          (F59 (true, 3, ())).bind fun y_1 =>
                            some
                              (((↑(typ0.getD 0 (0 : UInt8)).toNat : Int) == 105, y.1.1, y_1.1.1,
                                  ()),
                                ())
                        else
                          if ((↑(typ0.getD 0 (0 : UInt8)).toNat : Int) == 105) = true then
                            (F59 (y.1.1 == 0, 3, ())).bind fun y_1 =>
                              some
                                (((↑(typ0.getD 0 (0 : UInt8)).toNat : Int) == 105, y.1.1, y_1.1.1,
                                    ()),
                                  ())
                          else
                            (F59 (false, 3, ())).bind fun y_1 =>
                              some
                                (((↑(typ0.getD 0 (0 : UInt8)).toNat : Int) == 105, y.1.1, y_1.1.1,
                                    ()),
                                  ())
                      else none
                else none
              else none
        else none
      else
        if decide ((↑typ0.length : Int) > 4) = true then some ((false, 0, 6, ()), ())
        else
          if 1 ≤ (↑typ0.length : Int) then
            if (↑typ0.length : Int) ≤ (↑typ0.length : Int) then
              (F91 (List.drop 1 typ0, ())).bind fun y =>
                if (!y.1.2.1) = true then some ((false, 0, 6, ()), ())
                else
                  if 0 < (↑typ0.length : Int) then
                    if decide (y.1.1 > 64) = true then
                      (F59 (true, 3, ())).bind fun y_1 =>
                        some
                          (((↑(typ0.getD 0 (0 : UInt8)).toNat : Int) == 105, y.1.1, y_1.1.1, ()),
                            ())
                    else
                      if ((↑(typ0.getD 0 (0 : UInt8)).toNat : Int) == 105) = true then
                        (F59 (y.1.1 == 0, 3, ())).bind fun y_1 =>
                          some
                            (((↑(typ0.getD 0 (0 : UInt8)).toNat : Int) == 105, y.1.1, y_1.1.1,
                                ()),
                              ())
                      else
                        (F59 (false, 3, ())).bind fun y_1 =>
                          some
                            (((↑(typ0.getD 0 (0 : UInt8)).toNat : Int) == 105, y.1.1, y_1.1.1,
                                ()),
                              ())
                  else none
            else none
          else none
    else none : Option rs43.den) := by kernel_rfl
theorem F16_eq (F43 : (SV.denL ps43) → Option (rs43).den) (typ0 : List UInt8) : F16 F43 (typ0, ()) = (
  (F43 (typ0, ())).bind fun y => some ((y.1.2.2.1, ()), ()) : Option rs16.den) := by kernel_rfl
theorem S96_2_eq (n3 : Int) (b0_0 : Bool) (b0_1 : List Int) (b1_0 : Bool) (b1_1 : List Int) : S96_2 (((), (), n3, ()), ((b0_0, b0_1, ()), (b1_0, b1_1, ()), ())) = (
  if decide (n3 > 0) = true then
    if 0 ≤ IntKind.i64.wrap (n3 - 1) then
      if IntKind.i64.wrap (n3 - 1) < (↑b0_1.length : Int) then
        if (b0_1.getD (IntKind.i64.wrap (n3 - 1)).toNat 0 == 0) = true then
          some (Sum.inl (((), (), IntKind.i64.wrap (n3 - 1), ()), (b0_0, b0_1, ()), (b1_0, b1_1, ()), ()))
        else some (Sum.inr (((), (), n3, ()), (b0_0, b0_1, ()), (b1_0, b1_1, ()), ()))
      else none
    else none
  else some (Sum.inr (((), (), n3, ()), (b0_0, b0_1, ()), (b1_0, b1_1, ()), ())) : Option (sh96_2.den ⊕ denX w96_2)) := by kernel_rfl
theorem F96_eq (g96_2 : sh96_2.den → Option (denX w96_2)) (x0_0 : Bool) (x0_1 : List Int) : F96 g96_2 ((x0_0, x0_1), ()) = (
  (g96_2 (((), (), (↑x0_1.length : Int), ()), (x0_0, x0_1, ()), (false, [], ()), ())).bind fun y =>
    if 0 ≤ y.1.2.2.1 then
      if y.1.2.2.1 ≤ (↑(List.length y.2.1.2.1) : Int) then
        if (y.1.2.2.1 == 0) = true then some (((false, List.take (Int.toNat y.1.2.2.1) y.2.1.2.1), ()), ())
        else some (((y.2.1.1, List.take (Int.toNat y.1.2.2.1) y.2.1.2.1), ()), ())
      else none
    else none : Option rs96.den) := by kernel_rfl
theorem S52_6_eq (s0 : List UInt8) (i4 : Int) (b0_0 : Bool) (b0_1 : List Int) (b1_0 : Bool) (rw2 : List Int) : S52_6 ((s0, (), (), i4, ()), ((b0_0, b0_1, ()), (b1_0, (), ()), rw2, ())) = (
  if decide (i4 ≥ 0) = true then
    if 0 ≤ i4 then
      if i4 < (↑s0.length : Int) then
        if
            rw2.length +
                [IntKind.i64.wrap
                      (IntKind.u8.wrap
                        ((↑(s0.getD i4.toNat (0 : UInt8)).toNat : Int) - 48))].length ≤
              4294967296 then
          some
            (Sum.inl
              ((s0, (), (), IntKind.i64.wrap (i4 - 1), ()), (b0_0, b0_1, ()), (b1_0, (), ()),
                rw2 ++
                  [IntKind.i64.wrap
                      (IntKind.u8.wrap ((↑(s0.getD i4.toNat (0 : UInt8)).toNat : Int) - 48))],
                ()))
        else none
      else none
    else none
  else some (Sum.inr (((), (), ()), (b0_0, b0_1, ()), (b1_0, (), ()), rw2, ())) : Option (sh52_6.den ⊕ denX w52_6)) := by kernel_rfl
theorem F52_eq (F96 : (SV.denL ps96) → Option (rs96).den) (g52_6 : sh52_6.den → Option (denX w52_6)) (s0 : List UInt8) : F52 F96 g52_6 (s0, ()) = (
  if (!s0 == []) = true then
    if 0 < (↑s0.length : Int) then
      if ((↑(s0.getD 0 (0 : UInt8)).toNat : Int) == 45) = true then
        if 1 ≤ (↑s0.length : Int) then
          if (↑s0.length : Int) ≤ (↑s0.length : Int) then
            (g52_6
                  ((List.drop 1 s0, (), (), IntKind.i64.wrap ((↑(List.drop 1 s0).length : Int) - 1), ()), (false, [], ()),
                    (true, (), ()), [], ())).bind
              fun y => (F96 ((y.2.2.1.1, y.2.2.2.1), ())).bind fun y => some (((y.1.1.1, y.1.1.2), ()), ())
          else none
        else none
      else
        (g52_6
              ((s0, (), (), IntKind.i64.wrap ((↑s0.length : Int) - 1), ()), (false, [], ()), (false, (), ()), [],
                ())).bind
          fun y => (F96 ((y.2.2.1.1, y.2.2.2.1), ())).bind fun y => some (((y.1.1.1, y.1.1.2), ()), ())
    else none
  else
    (g52_6 ((s0, (), (), IntKind.i64.wrap ((↑s0.length : Int) - 1), ()), (false, [], ()), (false, (), ()), [], ())).bind
      fun y => (F96 ((y.2.2.1.1, y.2.2.2.1), ())).bind fun y => some (((y.1.1.1, y.1.1.2), ()), ()) : Option rs52.den) := by kernel_rfl
theorem F140_eq (R140 : (SV.denL ps140) → Option (rs140).den) (n0 : Int) (add1 : Int) : F140 R140 (n0, add1, ()) = (
  if decide (n0 < 10) = true then
    if decide (IntKind.i64.wrap (n0 + add1) < 10) = true then
      some ((encR (IntKind.i32.wrap (IntKind.i64.wrap (IntKind.i64.wrap (48 + n0) + add1))), ()), ())
    else
      (R140 (IntKind.i64.wrap (n0.tdiv 10), IntKind.i64.wrap ((IntKind.i64.wrap (n0.tmod 10 + add1)).tdiv 10), ())).bind
        fun y =>
        if
            List.length y.1.1 +
                (encR
                    (IntKind.i32.wrap (IntKind.i64.wrap (48 + (IntKind.i64.wrap (n0.tmod 10 + add1)).tmod 10)))).length ≤
              4294967296 then
          some
            ((y.1.1 ++ encR (IntKind.i32.wrap (IntKind.i64.wrap (48 + (IntKind.i64.wrap (n0.tmod 10 + add1)).tmod 10))),
                ()),
              ())
        else none
  else
    (R140 (IntKind.i64.wrap (n0.tdiv 10), IntKind.i64.wrap ((IntKind.i64.wrap (n0.tmod 10 + add1)).tdiv 10), ())).bind
      fun y =>
      if
          List.length y.1.1 +
              (encR (IntKind.i32.wrap (IntKind.i64.wrap (48 + (IntKind.i64.wrap (n0.tmod 10 + add1)).tmod 10)))).length ≤
            4294967296 then
        some
          ((y.1.1 ++ encR (IntKind.i32.wrap (IntKind.i64.wrap (48 + (IntKind.i64.wrap (n0.tmod 10 + add1)).tmod 10))),
              ()),
            ())
      else none : Option rs140.den) := by kernel_rfl
theorem F113_eq (F140 : (SV.denL ps140) → Option (rs140).den) (n0 : Int) : F113 F140 (n0, ()) = (
  if decide (n0 < 0) = true then
    (F140 (IntKind.i64.wrap (0 - IntKind.i64.wrap (n0 + 1)), 1, ())).bind fun y =>
      if 1 + List.length y.1.1 ≤ 4294967296 then some (([(45 : UInt8)] ++ y.1.1, ()), ())
      else none
  else (F140 (n0, 0, ())).bind fun y => some ((y.1.1, ()), ()) : Option rs113.den) := by kernel_rfl
theorem F70_eq (F52 : (SV.denL ps52) → Option (rs52).den) (F113 : (SV.denL ps113) → Option (rs113).den) (n0 : Int) : F70 F52 F113 (n0, ()) = (
  (F113 (n0, ())).bind fun y => (F52 (y.1.1, ())).bind fun y => some (((y.1.1.1, y.1.1.2), ()), ()) : Option rs70.den) := by kernel_rfl
theorem F112_eq (l0 : List Int) (i1 : Int) : F112 (l0, i1, ()) = (
  if decide (i1 < (↑l0.length : Int)) = true then
    if 0 ≤ i1 then if i1 < (↑l0.length : Int) then some ((l0.getD i1.toNat 0, ()), ()) else none else none
  else some ((0, ()), ()) : Option rs112.den) := by kernel_rfl
theorem S109_4_eq (F112 : (SV.denL ps112) → Option (rs112).den) (a0 : List Int) (b1 : List Int) (carry6 : Int) (i7 : Int) (rw0 : List Int) : S109_4 F112 ((a0, b1, (), carry6, i7, ()), (rw0, ())) = (
  if decide (i7 < (↑a0.length : Int)) = true then
    (F112 (a0, i7, ())).bind fun y =>
      (F112 (b1, i7, ())).bind fun y_1 =>
        if
            rw0.length + [(IntKind.i64.wrap (IntKind.i64.wrap (y.1.1 + y_1.1.1) + carry6)).tmod 10].length ≤
              4294967296 then
          some
            (Sum.inl
              ((a0, b1, (), IntKind.i64.wrap ((IntKind.i64.wrap (IntKind.i64.wrap (y.1.1 + y_1.1.1) + carry6)).tdiv 10),
                  IntKind.i64.wrap (i7 + 1), ()),
                rw0 ++ [(IntKind.i64.wrap (IntKind.i64.wrap (y.1.1 + y_1.1.1) + carry6)).tmod 10], ()))
        else none
  else
    if decide (i7 < (↑b1.length : Int)) = true then
      (F112 (a0, i7, ())).bind fun y =>
        (F112 (b1, i7, ())).bind fun y_1 =>
          if
              rw0.length + [(IntKind.i64.wrap (IntKind.i64.wrap (y.1.1 + y_1.1.1) + carry6)).tmod 10].length ≤
                4294967296 then
            some
              (Sum.inl
                ((a0, b1, (), IntKind.i64.wrap ((IntKind.i64.wrap (IntKind.i64.wrap (y.1.1 + y_1.1.1) + carry6)).tdiv 10),
                    IntKind.i64.wrap (i7 + 1), ()),
                  rw0 ++ [(IntKind.i64.wrap (IntKind.i64.wrap (y.1.1 + y_1.1.1) + carry6)).tmod 10], ()))
          else none
    else
      if decide (carry6 > 0) = true then
        (F112 (a0, i7, ())).bind fun y =>
          (F112 (b1, i7, ())).bind fun y_1 =>
            if
                rw0.length + [(IntKind.i64.wrap (IntKind.i64.wrap (y.1.1 + y_1.1.1) + carry6)).tmod 10].length ≤
                  4294967296 then
              some
                (Sum.inl
                  ((a0, b1, (),
                      IntKind.i64.wrap ((IntKind.i64.wrap (IntKind.i64.wrap (y.1.1 + y_1.1.1) + carry6)).tdiv 10),
                      IntKind.i64.wrap (i7 + 1), ()),
                    rw0 ++ [(IntKind.i64.wrap (IntKind.i64.wrap (y.1.1 + y_1.1.1) + carry6)).tmod 10], ()))
            else none
      else some (Sum.inr (((), ()), rw0, ())) : Option (sh109_4.den ⊕ denX w109_4)) := by kernel_rfl
theorem F109_eq (g109_4 : sh109_4.den → Option (denX w109_4)) (a0 : List Int) (b1 : List Int) : F109 g109_4 (a0, b1, ()) = (
  (g109_4 ((a0, b1, (), 0, 0, ()), [], ())).bind fun y => some ((y.2.1, ()), ()) : Option rs109.den) := by kernel_rfl
theorem S110_2_eq (F112 : (SV.denL ps112) → Option (rs112).den) (a0 : List Int) (b1 : List Int) (i5 : Int) : S110_2 F112 ((a0, b1, i5, ()), ()) = (
  if decide (i5 ≥ 0) = true then
    (F112 (a0, i5, ())).bind fun y =>
      (F112 (b1, i5, ())).bind fun y_1 =>
        if (!y.1.1 == y_1.1.1) = true then
          (F112 (a0, i5, ())).bind fun y =>
            (F112 (b1, i5, ())).bind fun y_2 =>
              if decide (y.1.1 < y_2.1.1) = true then some (Sum.inr (Sum.inl ((-1, ()), ())))
              else some (Sum.inr (Sum.inl ((1, ()), ())))
        else some (Sum.inl ((a0, b1, IntKind.i64.wrap (i5 - 1), ()), ()))
  else some (Sum.inr (Sum.inr ((), ()))) : Option (sh110_2.den ⊕ denX w110_2)) := by kernel_rfl
theorem F110_eq (g110_2 : sh110_2.den → Option (denX w110_2)) (a0 : List Int) (b1 : List Int) : F110 g110_2 (a0, b1, ()) = (
  (g110_2 ((a0, b1, IntKind.i64.wrap (imax (↑a0.length : Int) (↑b1.length : Int) - 1), ()), ())).bind fun y =>
    Sum.elim (fun y => some ((y.1.1, ()), ())) (fun z => some ((0, ()), ())) y : Option rs110.den) := by kernel_rfl
theorem S111_4_eq (F112 : (SV.denL ps112) → Option (rs112).den) (a0 : List Int) (b1 : List Int) (borrow6 : Int) (i7 : Int) (rw0 : List Int) : S111_4 F112 ((a0, b1, (), borrow6, i7, ()), (rw0, ())) = (
  if decide (i7 < (↑a0.length : Int)) = true then
    (F112 (a0, i7, ())).bind fun y =>
      (F112 (b1, i7, ())).bind fun y_1 =>
        if decide (IntKind.i64.wrap (IntKind.i64.wrap (y.1.1 - y_1.1.1) - borrow6) < 0) = true then
          if
              rw0.length +
                  [IntKind.i64.wrap (IntKind.i64.wrap (IntKind.i64.wrap (y.1.1 - y_1.1.1) - borrow6) + 10)].length ≤
                4294967296 then
            some
              (Sum.inl
                ((a0, b1, (), 1, IntKind.i64.wrap (i7 + 1), ()),
                  rw0 ++ [IntKind.i64.wrap (IntKind.i64.wrap (IntKind.i64.wrap (y.1.1 - y_1.1.1) - borrow6) + 10)], ()))
          else none
        else
          if rw0.length + [IntKind.i64.wrap (IntKind.i64.wrap (y.1.1 - y_1.1.1) - borrow6)].length ≤ 4294967296 then
            some
              (Sum.inl
                ((a0, b1, (), 0, IntKind.i64.wrap (i7 + 1), ()),
                  rw0 ++ [IntKind.i64.wrap (IntKind.i64.wrap (y.1.1 - y_1.1.1) - borrow6)], ()))
          else none
  else some (Sum.inr (((), ()), rw0, ())) : Option (sh111_4.den ⊕ denX w111_4)) := by kernel_rfl
theorem F111_eq (g111_4 : sh111_4.den → Option (denX w111_4)) (a0 : List Int) (b1 : List Int) : F111 g111_4 (a0, b1, ()) = (
  (g111_4 ((a0, b1, (), 0, 0, ()), [], ())).bind fun y => some ((y.2.1, ()), ()) : Option rs111.den) := by kernel_rfl
theorem F68_eq (F96 : (SV.denL ps96) → Option (rs96).den) (F109 : (SV.denL ps109) → Option (rs109).den) (F110 : (SV.denL ps110) → Option (rs110).den) (F111 : (SV.denL ps111) → Option (rs111).den) (a0_0 : Bool) (a0_1 : List Int) (b1_0 : Bool) (b1_1 : List Int) : F68 F96 F109 F110 F111 ((a0_0, a0_1), (b1_0, b1_1), ()) = (
  if (a0_0 == b1_0) = true then
    (F109 (a0_1, b1_1, ())).bind fun y => (F96 ((a0_0, y.1.1), ())).bind fun y => some (((y.1.1.1, y.1.1.2), ()), ())
  else
    (F110 (a0_1, b1_1, ())).bind fun y =>
      if decide (y.1.1 ≥ 0) = true then
        (F111 (a0_1, b1_1, ())).bind fun y => (F96 ((a0_0, y.1.1), ())).bind fun y => some (((y.1.1.1, y.1.1.2), ()), ())
      else
        (F111 (b1_1, a0_1, ())).bind fun y => (F96 ((b1_0, y.1.1), ())).bind fun y => some (((y.1.1.1, y.1.1.2), ()), ()) : Option rs68.den) := by kernel_rfl
theorem F93_eq (F96 : (SV.denL ps96) → Option (rs96).den) (x0_0 : Bool) (x0_1 : List Int) : F93 F96 ((x0_0, x0_1), ()) = (
  (F96 ((!x0_0, x0_1), ())).bind fun y => some (((y.1.1.1, y.1.1.2), ()), ()) : Option rs93.den) := by kernel_rfl
theorem F82_eq (F68 : (SV.denL ps68) → Option (rs68).den) (F93 : (SV.denL ps93) → Option (rs93).den) (a0_0 : Bool) (a0_1 : List Int) (b1_0 : Bool) (b1_1 : List Int) : F82 F68 F93 ((a0_0, a0_1), (b1_0, b1_1), ()) = (
  (F93 ((b1_0, b1_1), ())).bind fun y =>
    (F68 ((a0_0, a0_1), (y.1.1.1, y.1.1.2), ())).bind fun y => some (((y.1.1.1, y.1.1.2), ()), ()) : Option rs82.den) := by kernel_rfl
theorem S69_7_eq (F112 : (SV.denL ps112) → Option (rs112).den) (i6 : Int) (carry7 : Int) (k8 : Int) (b0_0 : Bool) (b0_1 : List Int) (b1_0 : Bool) (b1_1 : List Int) (b2_0 : Bool) (b2_1 : List Int) (rw3 : List Int) : S69_7 F112 (((), (), (), (), i6, carry7, k8, ()), ((b0_0, b0_1, ()), (b1_0, b1_1, ()), (b2_0, b2_1, ()), rw3, ())) = (
  if decide (k8 ≤ (↑b1_1.length : Int)) = true then
    if 0 ≤ IntKind.i64.wrap (i6 + k8) then
      if IntKind.i64.wrap (i6 + k8) < (↑rw3.length : Int) then
        if 0 ≤ i6 then
          if i6 < (↑b0_1.length : Int) then
            (F112 (b1_1, k8, ())).bind fun y =>
              if 0 ≤ IntKind.i64.wrap (i6 + k8) then
                if IntKind.i64.wrap (i6 + k8) < (↑rw3.length : Int) then
                  some
                    (Sum.inl
                      (((), (), (), (), i6,
                          IntKind.i64.wrap
                            ((IntKind.i64.wrap
                                  (IntKind.i64.wrap
                                      (rw3.getD (IntKind.i64.wrap (i6 + k8)).toNat 0 +
                                        IntKind.i64.wrap (b0_1.getD i6.toNat 0 * y.1.1)) +
                                    carry7)).tdiv
                              10),
                          IntKind.i64.wrap (k8 + 1), ()),
                        (b0_0, b0_1, ()), (b1_0, b1_1, ()), (b2_0, b2_1, ()),
                        rw3.set (IntKind.i64.wrap (i6 + k8)).toNat
                          ((IntKind.i64.wrap
                                (IntKind.i64.wrap
                                    (rw3.getD (IntKind.i64.wrap (i6 + k8)).toNat 0 +
                                      IntKind.i64.wrap (b0_1.getD i6.toNat 0 * y.1.1)) +
                                  carry7)).tmod
                            10),
                        ()))
                else none
              else none
          else none
        else none
      else none
    else none
  else some (Sum.inr (((), (), (), (), i6, ()), (b0_0, b0_1, ()), (b1_0, b1_1, ()), (b2_0, b2_1, ()), rw3, ())) : Option (sh69_7.den ⊕ denX w69_7)) := by kernel_rfl
theorem S69_3_eq (g69_7 : sh69_7.den → Option (denX w69_7)) (i6 : Int) (b0_0 : Bool) (b0_1 : List Int) (b1_0 : Bool) (b1_1 : List Int) (b2_0 : Bool) (b2_1 : List Int) (rw3 : List Int) : S69_3 g69_7 (((), (), (), (), i6, ()), ((b0_0, b0_1, ()), (b1_0, b1_1, ()), (b2_0, b2_1, ()), rw3, ())) = (
  if decide (i6 < (↑b0_1.length : Int)) = true then
    (g69_7 (((), (), (), (), i6, 0, 0, ()), (b0_0, b0_1, ()), (b1_0, b1_1, ()), (b2_0, b2_1, ()), rw3, ())).bind fun y =>
      some
        (Sum.inl
          (((), (), (), (), IntKind.i64.wrap (y.1.2.2.2.2.1 + 1), ()), (y.2.1.1, y.2.1.2.1, ()),
            (y.2.2.1.1, y.2.2.1.2.1, ()), (y.2.2.2.1.1, y.2.2.2.1.2.1, ()), y.2.2.2.2.1, ()))
  else some (Sum.inr (((), (), (), (), ()), (b0_0, b0_1, ()), (b1_0, b1_1, ()), (b2_0, b2_1, ()), rw3, ())) : Option (sh69_3.den ⊕ denX w69_3)) := by kernel_rfl
theorem F69_eq (F96 : (SV.denL ps96) → Option (rs96).den) (g69_3 : sh69_3.den → Option (denX w69_3)) (a0_0 : Bool) (a0_1 : List Int) (b1_0 : Bool) (b1_1 : List Int) : F69 F96 g69_3 ((a0_0, a0_1), (b1_0, b1_1), ()) = (
  if 0 ≤ IntKind.i64.wrap (IntKind.i64.wrap ((↑a0_1.length : Int) + (↑b1_1.length : Int)) + 1) then
    if
        IntKind.i64.wrap (IntKind.i64.wrap ((↑a0_1.length : Int) + (↑b1_1.length : Int)) + 1) ≤
          IntKind.i64.wrap (IntKind.i64.wrap ((↑a0_1.length : Int) + (↑b1_1.length : Int)) + 1) then
      if IntKind.i64.wrap (IntKind.i64.wrap ((↑a0_1.length : Int) + (↑b1_1.length : Int)) + 1) ≤ ((4294967296 : Nat) : Int) then
        (g69_3
              (((), (), (), (), 0, ()), (a0_0, a0_1, ()), (b1_0, b1_1, ()), (false, [], ()),
                List.replicate
                  (IntKind.i64.wrap (IntKind.i64.wrap ((↑a0_1.length : Int) + (↑b1_1.length : Int)) + 1)).toNat 0,
                ())).bind
          fun y => (F96 ((!y.2.1.1 == y.2.2.1.1, y.2.2.2.2.1), ())).bind fun y => some (((y.1.1.1, y.1.1.2), ()), ())
      else none
    else none
  else none : Option rs69.den) := by kernel_rfl
theorem S92_2_eq (F69 : (SV.denL ps69) → Option (rs69).den) (n1 : Int) (b0_0 : Bool) (b0_1 : List Int) (b1_0 : Bool) (b1_1 : List Int) (b2_0 : Bool) (b2_1 : List Int) : S92_2 F69 ((n1, (), (), (), ()), ((b0_0, b0_1, ()), (b1_0, b1_1, ()), (b2_0, b2_1, ()), ())) = (
  if decide (n1 > 0) = true then
    if (n1.tmod 2 == 1) = true then
      (F69 ((b2_0, b2_1), (b0_0, b0_1), ())).bind fun y =>
        (F69 ((b0_0, b0_1), (b0_0, b0_1), ())).bind fun y_1 =>
          some
            (Sum.inl
              ((IntKind.i64.wrap (n1.tdiv 2), (), (), (), ()), (y_1.1.1.1, y_1.1.1.2, ()), (b1_0, b1_1, ()),
                (y.1.1.1, y.1.1.2, ()), ()))
    else
      (F69 ((b0_0, b0_1), (b0_0, b0_1), ())).bind fun y =>
        some
          (Sum.inl
            ((IntKind.i64.wrap (n1.tdiv 2), (), (), (), ()), (y.1.1.1, y.1.1.2, ()), (b1_0, b1_1, ()), (b2_0, b2_1, ()),
              ()))
  else some (Sum.inr (((), (), ()), (b1_0, b1_1, ()), (b2_0, b2_1, ()), ())) : Option (sh92_2.den ⊕ denX w92_2)) := by kernel_rfl
theorem F92_eq (F70 : (SV.denL ps70) → Option (rs70).den) (g92_2 : sh92_2.den → Option (denX w92_2)) (x0_0 : Bool) (x0_1 : List Int) (n1 : Int) : F92 F70 g92_2 ((x0_0, x0_1), n1, ()) = (
  (F70 (1, ())).bind fun y =>
    (g92_2 ((n1, (), (), (), ()), (x0_0, x0_1, ()), (false, [], ()), (y.1.1.1, y.1.1.2, ()), ())).bind fun y =>
      some (((y.2.2.1.1, y.2.2.1.2.1), ()), ()) : Option rs92.den) := by kernel_rfl
theorem F45_eq (F43 : (SV.denL ps43) → Option (rs43).den) (F70 : (SV.denL ps70) → Option (rs70).den) (F82 : (SV.denL ps82) → Option (rs82).den) (F92 : (SV.denL ps92) → Option (rs92).den) (F93 : (SV.denL ps93) → Option (rs93).den) (typ0 : List UInt8) : F45 F43 F70 F82 F92 F93 (typ0, ()) = (
  (F43 (typ0, ())).bind fun y =>
    if y.1.1 = true then
      (F70 (2, ())).bind fun y_1 =>
        (F92 ((y_1.1.1.1, y_1.1.1.2), IntKind.i64.wrap (y.1.2.1 - 1), ())).bind fun y =>
          (F93 ((y.1.1.1, y.1.1.2), ())).bind fun y_2 =>
            (F70 (1, ())).bind fun y_3 =>
              (F82 ((y.1.1.1, y.1.1.2), (y_3.1.1.1, y_3.1.1.2), ())).bind fun y =>
                some (((y_2.1.1.1, y_2.1.1.2), (y.1.1.1, y.1.1.2), ()), ())
    else
      (F70 (2, ())).bind fun y_1 =>
        (F92 ((y_1.1.1.1, y_1.1.1.2), y.1.2.1, ())).bind fun y =>
          (F70 (1, ())).bind fun y_2 =>
            (F82 ((y.1.1.1, y.1.1.2), (y_2.1.1.1, y_2.1.1.2), ())).bind fun y =>
              some (((false, []), (y.1.1.1, y.1.1.2), ()), ()) : Option rs45.den) := by kernel_rfl
theorem S46_7_eq (i4 : Int) (b0_0 : Bool) (b0_1 : List Int) (rw1 : List Int) : S46_7 (((), (), i4, ()), ((b0_0, b0_1, ()), rw1, ())) = (
  if decide (i4 ≥ 0) = true then
    if 0 ≤ i4 then
      if i4 < (↑b0_1.length : Int) then
        if rw1.length + [IntKind.u8.wrap (IntKind.i64.wrap (48 + b0_1.getD i4.toNat 0))].length ≤ 4294967296 then
          some
            (Sum.inl
              (((), (), IntKind.i64.wrap (i4 - 1), ()), (b0_0, b0_1, ()),
                rw1 ++ [IntKind.u8.wrap (IntKind.i64.wrap (48 + b0_1.getD i4.toNat 0))], ()))
        else none
      else none
    else none
  else some (Sum.inr (((), ()), rw1, ())) : Option (sh46_7.den ⊕ denX w46_7)) := by kernel_rfl
theorem F46_eq (g46_7 : sh46_7.den → Option (denX w46_7)) (x0_0 : Bool) (x0_1 : List Int) : F46 g46_7 ((x0_0, x0_1), ()) = (
  if ((↑x0_1.length : Int) == 0) = true then some (([(48 : UInt8)], ()), ())
  else
    if x0_0 = true then
      (g46_7 (((), (), IntKind.i64.wrap ((↑x0_1.length : Int) - 1), ()), (x0_0, x0_1, ()), [45], ())).bind fun y =>
        some ((List.map (fun n => UInt8.ofNat n.toNat) y.2.1, ()), ())
    else
      (g46_7 (((), (), IntKind.i64.wrap ((↑x0_1.length : Int) - 1), ()), (x0_0, x0_1, ()), [], ())).bind fun y =>
        some ((List.map (fun n => UInt8.ofNat n.toNat) y.2.1, ()), ()) : Option rs46.den) := by kernel_rfl
theorem S27_7_eq (F72 : (SV.denL ps72) → Option (rs72).den) (body3 : List UInt8) (i4 : Int) : S27_7 F72 ((body3, i4, ()), ()) = (
  if decide (i4 < (↑body3.length : Int)) = true then
    if 0 ≤ i4 then
      if i4 < (↑body3.length : Int) then
        (F72 ((↑(body3.getD i4.toNat (0 : UInt8)).toNat : Int), ())).bind fun y =>
          if (!y.1.1) = true then some (Sum.inr (Sum.inl ((1, ()), ())))
          else some (Sum.inl ((body3, IntKind.i64.wrap (i4 + 1), ()), ()))
      else none
    else none
  else some (Sum.inr (Sum.inr ((body3, ()), ()))) : Option (sh27_7.den ⊕ denX w27_7)) := by kernel_rfl
theorem F27_eq (F59 : (SV.denL ps59) → Option (rs59).den) (g27_7 : sh27_7.den → Option (denX w27_7)) (s0 : List UInt8) : F27 F59 g27_7 (s0, ()) = (
  if decide ((↑s0.length : Int) > 0) = true then
    if 0 < (↑s0.length : Int) then
      if ((↑(s0.getD 0 (0 : UInt8)).toNat : Int) == 45) = true then
        if 1 ≤ (↑s0.length : Int) then
          if (↑s0.length : Int) ≤ (↑s0.length : Int) then
            if (List.drop 1 s0 == []) = true then some ((1, ()), ())
            else
              if (s0 == [(45 : UInt8), (48 : UInt8)]) = true then
                some ((1, ()), ())
              else
                if decide ((↑(List.drop 1 s0).length : Int) > 1) = true then
                  if 0 < (↑(List.drop 1 s0).length : Int) then
                    if ((↑((List.drop 1 s0).getD 0 (0 : UInt8)).toNat : Int) == 48) = true then
                      some ((1, ()), ())
                    else
                      (g27_7 ((List.drop 1 s0, 0, ()), ())).bind fun y =>
                        Sum.elim (fun y => some ((y.1.1, ()), ()))
                          (fun z =>
                            (F59 (decide ((↑(List.length z.1.1) : Int) > 100), 4, ())).bind fun y =>
                              some ((y.1.1, ()), ()))
                          y
                  else none
                else
                  (g27_7 ((List.drop 1 s0, 0, ()), ())).bind fun y =>
                    Sum.elim (fun y => some ((y.1.1, ()), ()))
                      (fun z =>
                        (F59 (decide ((↑(List.length z.1.1) : Int) > 100), 4, ())).bind fun y => some ((y.1.1, ()), ()))
                      y
          else none
        else none
      else
        if (s0 == []) = true then some ((1, ()), ())
        else
          if (s0 == [(45 : UInt8), (48 : UInt8)]) = true then
            some ((1, ()), ())
          else
            if decide ((↑s0.length : Int) > 1) = true then
              if 0 < (↑s0.length : Int) then
                if ((↑(s0.getD 0 (0 : UInt8)).toNat : Int) == 48) = true then some ((1, ()), ())
                else
                  (g27_7 ((s0, 0, ()), ())).bind fun y =>
                    Sum.elim (fun y => some ((y.1.1, ()), ()))
                      (fun z =>
                        (F59 (decide ((↑(List.length z.1.1) : Int) > 100), 4, ())).bind fun y => some ((y.1.1, ()), ()))
                      y
              else none
            else
              (g27_7 ((s0, 0, ()), ())).bind fun y =>
                Sum.elim (fun y => some ((y.1.1, ()), ()))
                  (fun z =>
                    (F59 (decide ((↑(List.length z.1.1) : Int) > 100), 4, ())).bind fun y => some ((y.1.1, ()), ()))
                  y
    else none
  else
    if (s0 == []) = true then some ((1, ()), ())
    else
      if (s0 == [(45 : UInt8), (48 : UInt8)]) = true then
        some ((1, ()), ())
      else
        if decide ((↑s0.length : Int) > 1) = true then
          if 0 < (↑s0.length : Int) then
            if ((↑(s0.getD 0 (0 : UInt8)).toNat : Int) == 48) = true then some ((1, ()), ())
            else
              (g27_7 ((s0, 0, ()), ())).bind fun y =>
                Sum.elim (fun y => some ((y.1.1, ()), ()))
                  (fun z =>
                    (F59 (decide ((↑(List.length z.1.1) : Int) > 100), 4, ())).bind fun y => some ((y.1.1, ()), ()))
                  y
          else none
        else
          (g27_7 ((s0, 0, ()), ())).bind fun y =>
            Sum.elim (fun y => some ((y.1.1, ()), ()))
              (fun z => (F59 (decide ((↑(List.length z.1.1) : Int) > 100), 4, ())).bind fun y => some ((y.1.1, ()), ())) y : Option rs27.den) := by kernel_rfl
theorem S51_2_eq (l0 : List Int) (i3 : Int) : S51_2 ((l0, i3, ()), ()) = (
  if decide (i3 < (↑l0.length : Int)) = true then
    if 0 ≤ i3 then
      if i3 < (↑l0.length : Int) then
        if (!l0.getD i3.toNat 0 == 0) = true then
          if 0 ≤ i3 then if i3 < (↑l0.length : Int) then some (Sum.inr (Sum.inl ((l0.getD i3.toNat 0, ()), ()))) else none
          else none
        else some (Sum.inl ((l0, IntKind.i64.wrap (i3 + 1), ()), ()))
      else none
    else none
  else some (Sum.inr (Sum.inr ((), ()))) : Option (sh51_2.den ⊕ denX w51_2)) := by kernel_rfl
theorem F51_eq (g51_2 : sh51_2.den → Option (denX w51_2)) (l0 : List Int) : F51 g51_2 (l0, ()) = (
  (g51_2 ((l0, 0, ()), ())).bind fun y => Sum.elim (fun y => some ((y.1.1, ()), ())) (fun z => some ((0, ()), ())) y : Option rs51.den) := by kernel_rfl
theorem F87_eq (F110 : (SV.denL ps110) → Option (rs110).den) (a0_0 : Bool) (a0_1 : List Int) (b1_0 : Bool) (b1_1 : List Int) : F87 F110 ((a0_0, a0_1), (b1_0, b1_1), ()) = (
  if a0_0 = true then
    if (!b1_0) = true then some ((-1, ()), ())
    else
      if (!a0_0) = true then
        if b1_0 = true then some ((1, ()), ())
        else
          if a0_0 = true then (F110 (b1_1, a0_1, ())).bind fun y => some ((y.1.1, ()), ())
          else (F110 (a0_1, b1_1, ())).bind fun y => some ((y.1.1, ()), ())
      else
        if a0_0 = true then (F110 (b1_1, a0_1, ())).bind fun y => some ((y.1.1, ()), ())
        else (F110 (a0_1, b1_1, ())).bind fun y => some ((y.1.1, ()), ())
  else
    if (!a0_0) = true then
      if b1_0 = true then some ((1, ()), ())
      else
        if a0_0 = true then (F110 (b1_1, a0_1, ())).bind fun y => some ((y.1.1, ()), ())
        else (F110 (a0_1, b1_1, ())).bind fun y => some ((y.1.1, ()), ())
    else
      if a0_0 = true then (F110 (b1_1, a0_1, ())).bind fun y => some ((y.1.1, ()), ())
      else (F110 (a0_1, b1_1, ())).bind fun y => some ((y.1.1, ()), ()) : Option rs87.den) := by kernel_rfl
theorem F53_eq (F45 : (SV.denL ps45) → Option (rs45).den) (F87 : (SV.denL ps87) → Option (rs87).den) (typ0 : List UInt8) (x1_0 : Bool) (x1_1 : List Int) : F53 F45 F87 (typ0, (x1_0, x1_1), ()) = (
  (F45 (typ0, ())).bind fun y =>
    (F87 ((y.1.1.1, y.1.1.2), (x1_0, x1_1), ())).bind fun y_1 =>
      if decide (y_1.1.1 ≤ 0) = true then
        (F87 ((x1_0, x1_1), (y.1.2.1.1, y.1.2.1.2), ())).bind fun y => some ((decide (y.1.1 ≤ 0), ()), ())
      else some ((false, ()), ()) : Option rs53.den) := by kernel_rfl
theorem F60_eq (width0 : Int) : F60 (width0, ()) = (
  if (width0 == 64) = true then some ((18446744073709551615, ()), ())
  else if width0 < 0 then none else some ((IntKind.u64.wrap (IntKind.u64.wrap (1 * 2 ^ min width0.toNat 64) - 1), ()), ()) : Option rs60.den) := by kernel_rfl
theorem S97_3_eq (out3 : Int) (i4 : Int) (b0_0 : Bool) (b0_1 : List Int) : S97_3 (((), out3, i4, ()), ((b0_0, b0_1, ()), ())) = (
  if decide (i4 ≥ 0) = true then
    if 0 ≤ i4 then
      if i4 < (↑b0_1.length : Int) then
        some
          (Sum.inl
            (((), IntKind.u64.wrap (IntKind.u64.wrap (out3 * 10) + IntKind.u64.wrap (b0_1.getD i4.toNat 0)),
                IntKind.i64.wrap (i4 - 1), ()),
              (b0_0, b0_1, ()), ()))
      else none
    else none
  else some (Sum.inr (((), out3, ()), (b0_0, b0_1, ()), ())) : Option (sh97_3.den ⊕ denX w97_3)) := by kernel_rfl
theorem F97_eq (g97_3 : sh97_3.den → Option (denX w97_3)) (x0_0 : Bool) (x0_1 : List Int) : F97 g97_3 ((x0_0, x0_1), ()) = (
  (g97_3 (((), 0, IntKind.i64.wrap ((↑x0_1.length : Int) - 1), ()), (x0_0, x0_1, ()), ())).bind fun y =>
    if y.2.1.1 = true then some ((IntKind.u64.wrap (0 - y.1.2.1), ()), ()) else some ((y.1.2.1, ()), ()) : Option rs97.den) := by kernel_rfl
theorem F54_eq (F43 : (SV.denL ps43) → Option (rs43).den) (F60 : (SV.denL ps60) → Option (rs60).den) (F97 : (SV.denL ps97) → Option (rs97).den) (typ0 : List UInt8) (x1_0 : Bool) (x1_1 : List Int) : F54 F43 F60 F97 (typ0, (x1_0, x1_1), ()) = (
  (F43 (typ0, ())).bind fun y =>
    (F97 ((x1_0, x1_1), ())).bind fun y_1 =>
      (F60 (y.1.2.1, ())).bind fun y => some ((bitop BinOp.and IntKind.u64 y_1.1.1 y.1.1, ()), ()) : Option rs54.den) := by kernel_rfl
theorem F18_eq (F16 : (SV.denL ps16) → Option (rs16).den) (F27 : (SV.denL ps27) → Option (rs27).den) (F51 : (SV.denL ps51) → Option (rs51).den) (F52 : (SV.denL ps52) → Option (rs52).den) (F53 : (SV.denL ps53) → Option (rs53).den) (F54 : (SV.denL ps54) → Option (rs54).den) (typ0 : List UInt8) (s1 : List UInt8) : F18 F16 F27 F51 F52 F53 F54 (typ0, s1, ()) = (
  (F16 (typ0, ())).bind fun y =>
    (F27 (s1, ())).bind fun y_1 =>
      (F51 ([y.1.1, y_1.1.1], ())).bind fun y =>
        if (!y.1.1 == 0) = true then some ((0, y.1.1, ()), ())
        else
          (F52 (s1, ())).bind fun y =>
            (F53 (typ0, (y.1.1.1, y.1.1.2), ())).bind fun y_2 =>
              if (!y_2.1.1) = true then some ((0, 35, ()), ())
              else (F54 (typ0, (y.1.1.1, y.1.1.2), ())).bind fun y => some ((y.1.1, 0, ()), ()) : Option rs18.den) := by kernel_rfl
theorem S99_2_eq (n0 : Int) (b0_0 : Bool) (b0_1 : List Int) (b1_0 : Bool) (rw2 : List Int) : S99_2 ((n0, (), (), ()), ((b0_0, b0_1, ()), (b1_0, (), ()), rw2, ())) = (
  if decide (n0 > 0) = true then
    if rw2.length + [IntKind.i64.wrap (n0.tmod 10)].length ≤ 4294967296 then
      some
        (Sum.inl
          ((IntKind.u64.wrap (n0.tdiv 10), (), (), ()), (b0_0, b0_1, ()), (b1_0, (), ()),
            rw2 ++ [IntKind.i64.wrap (n0.tmod 10)], ()))
    else none
  else some (Sum.inr (((), (), ()), (b0_0, b0_1, ()), (b1_0, (), ()), rw2, ())) : Option (sh99_2.den ⊕ denX w99_2)) := by kernel_rfl
theorem F99_eq (g99_2 : sh99_2.den → Option (denX w99_2)) (n0 : Int) : F99 g99_2 (n0, ()) = (
  (g99_2 ((n0, (), (), ()), (false, [], ()), (false, (), ()), [], ())).bind fun y =>
    some (((y.2.2.1.1, y.2.2.2.1), ()), ()) : Option rs99.den) := by kernel_rfl
theorem F61_eq (F43 : (SV.denL ps43) → Option (rs43).den) (F70 : (SV.denL ps70) → Option (rs70).den) (F82 : (SV.denL ps82) → Option (rs82).den) (F92 : (SV.denL ps92) → Option (rs92).den) (F99 : (SV.denL ps99) → Option (rs99).den) (typ0 : List UInt8) (bits1 : Int) : F61 F43 F70 F82 F92 F99 (typ0, bits1, ()) = (
  (F43 (typ0, ())).bind fun y =>
    (F99 (bits1, ())).bind fun y_1 =>
      if y.1.1 = true then
        if IntKind.i64.wrap (y.1.2.1 - 1) < 0 then none
        else
          if (bits1.fdiv (2 ^ min (IntKind.i64.wrap (y.1.2.1 - 1)).toNat 64) == 1) = true then
            (F70 (2, ())).bind fun y_2 =>
              (F92 ((y_2.1.1.1, y_2.1.1.2), y.1.2.1, ())).bind fun y =>
                (F82 ((y_1.1.1.1, y_1.1.1.2), (y.1.1.1, y.1.1.2), ())).bind fun y => some (((y.1.1.1, y.1.1.2), ()), ())
          else some (((y_1.1.1.1, y_1.1.1.2), ()), ())
      else some (((y_1.1.1.1, y_1.1.1.2), ()), ()) : Option rs61.den) := by kernel_rfl
theorem F20_eq (F43 : (SV.denL ps43) → Option (rs43).den) (F46 : (SV.denL ps46) → Option (rs46).den) (F51 : (SV.denL ps51) → Option (rs51).den) (F59 : (SV.denL ps59) → Option (rs59).den) (F60 : (SV.denL ps60) → Option (rs60).den) (F61 : (SV.denL ps61) → Option (rs61).den) (typ0 : List UInt8) (bits1 : Int) : F20 F43 F46 F51 F59 F60 F61 (typ0, bits1, ()) = (
  (F43 (typ0, ())).bind fun y =>
    if (y.1.2.2.1 == 0) = true then
      (F60 (y.1.2.1, ())).bind fun y_1 =>
        (F59 (!bitop BinOp.andNot IntKind.u64 bits1 y_1.1.1 == 0, 3, ())).bind fun y_2 =>
          (F51 ([y.1.2.2.1, y_2.1.1], ())).bind fun y =>
            if (!y.1.1 == 0) = true then some (([], y.1.1, ()), ())
            else
              (F61 (typ0, bits1, ())).bind fun y => (F46 ((y.1.1.1, y.1.1.2), ())).bind fun y => some ((y.1.1, 0, ()), ())
    else
      (F59 (false, 3, ())).bind fun y_1 =>
        (F51 ([y.1.2.2.1, y_1.1.1], ())).bind fun y =>
          if (!y.1.1 == 0) = true then some (([], y.1.1, ()), ())
          else
            (F61 (typ0, bits1, ())).bind fun y => (F46 ((y.1.1.1, y.1.1.2), ())).bind fun y => some ((y.1.1, 0, ()), ()) : Option rs20.den) := by kernel_rfl
theorem F22_eq (F16 : (SV.denL ps16) → Option (rs16).den) (F27 : (SV.denL ps27) → Option (rs27).den) (F51 : (SV.denL ps51) → Option (rs51).den) (F52 : (SV.denL ps52) → Option (rs52).den) (F54 : (SV.denL ps54) → Option (rs54).den) (typ0 : List UInt8) (s1 : List UInt8) : F22 F16 F27 F51 F52 F54 (typ0, s1, ()) = (
  (F16 (typ0, ())).bind fun y =>
    (F27 (s1, ())).bind fun y_1 =>
      (F51 ([y.1.1, y_1.1.1], ())).bind fun y =>
        if (!y.1.1 == 0) = true then some ((0, y.1.1, ()), ())
        else (F52 (s1, ())).bind fun y => (F54 (typ0, (y.1.1.1, y.1.1.2), ())).bind fun y => some ((y.1.1, 0, ()), ()) : Option rs22.den) := by kernel_rfl
theorem F62_eq (F45 : (SV.denL ps45) → Option (rs45).den) (F87 : (SV.denL ps87) → Option (rs87).den) (typ0 : List UInt8) (x1_0 : Bool) (x1_1 : List Int) : F62 F45 F87 (typ0, (x1_0, x1_1), ()) = (
  (F45 (typ0, ())).bind fun y =>
    (F87 ((x1_0, x1_1), (y.1.1.1, y.1.1.2), ())).bind fun y_1 =>
      if decide (y_1.1.1 < 0) = true then some (((y.1.1.1, y.1.1.2), ()), ())
      else
        (F87 ((x1_0, x1_1), (y.1.2.1.1, y.1.2.1.2), ())).bind fun y_2 =>
          if decide (y_2.1.1 > 0) = true then some (((y.1.2.1.1, y.1.2.1.2), ()), ()) else some (((x1_0, x1_1), ()), ()) : Option rs62.den) := by kernel_rfl
theorem F24_eq (F16 : (SV.denL ps16) → Option (rs16).den) (F27 : (SV.denL ps27) → Option (rs27).den) (F51 : (SV.denL ps51) → Option (rs51).den) (F52 : (SV.denL ps52) → Option (rs52).den) (F54 : (SV.denL ps54) → Option (rs54).den) (F62 : (SV.denL ps62) → Option (rs62).den) (typ0 : List UInt8) (s1 : List UInt8) : F24 F16 F27 F51 F52 F54 F62 (typ0, s1, ()) = (
  (F16 (typ0, ())).bind fun y =>
    (F27 (s1, ())).bind fun y_1 =>
      (F51 ([y.1.1, y_1.1.1], ())).bind fun y =>
        if (!y.1.1 == 0) = true then some ((0, y.1.1, ()), ())
        else
          (F52 (s1, ())).bind fun y =>
            (F62 (typ0, (y.1.1.1, y.1.1.2), ())).bind fun y =>
              (F54 (typ0, (y.1.1.1, y.1.1.2), ())).bind fun y => some ((y.1.1, 0, ()), ()) : Option rs24.den) := by kernel_rfl
theorem F4_eq (F9 : (SV.denL ps9) → Option (rs9).den) (F10 : (SV.denL ps10) → Option (rs10).den) (F17 : (SV.denL ps17) → Option (rs17).den) (F18 : (SV.denL ps18) → Option (rs18).den) (F19 : (SV.denL ps19) → Option (rs19).den) (F20 : (SV.denL ps20) → Option (rs20).den) (F21 : (SV.denL ps21) → Option (rs21).den) (F22 : (SV.denL ps22) → Option (rs22).den) (F23 : (SV.denL ps23) → Option (rs23).den) (F24 : (SV.denL ps24) → Option (rs24).den) (typ0 : List UInt8) (s1 : List UInt8) (bits2 : Int) : F4 F9 F10 F17 F18 F19 F20 F21 F22 F23 F24 (typ0, s1, bits2, ()) = (
  (F9 ([typ0, s1], ())).bind fun y =>
    if (!y.1.1) = true then (F10 ()).bind fun y => some ((y.1.1, ()), ())
    else
      (F17 (typ0, s1, ())).bind fun y =>
        (F18 (typ0, s1, ())).bind fun y_1 =>
          (F19 (typ0, bits2, ())).bind fun y_2 =>
            (F20 (typ0, bits2, ())).bind fun y_3 =>
              (F21 (typ0, s1, ())).bind fun y_4 =>
                (F22 (typ0, s1, ())).bind fun y_5 =>
                  (F23 (typ0, s1, ())).bind fun y_6 =>
                    (F24 (typ0, s1, ())).bind fun y_7 =>
                      if (y.1.1 == y_1.1.1) = true then
                        if (y.1.2.1 == y_1.1.2.1) = true then
                          if (y_2.1.1 == y_3.1.1) = true then
                            if (y_2.1.2.1 == y_3.1.2.1) = true then
                              if (y_4.1.1 == y_5.1.1) = true then
                                if (y_4.1.2.1 == y_5.1.2.1) = true then
                                  if (y_6.1.1 == y_7.1.1) = true then
                                    if (y_6.1.2.1 == y_7.1.2.1) = true then (F10 ()).bind fun y => some ((y.1.1, ()), ())
                                    else some ((false, ()), ())
                                  else some ((false, ()), ())
                                else some ((false, ()), ())
                              else some ((false, ()), ())
                            else some ((false, ()), ())
                          else some ((false, ()), ())
                        else some ((false, ()), ())
                      else some ((false, ()), ()) : Option rs4.den) := by kernel_rfl
end Go.Proofs.Rf
/- The functions, evaluated. -/
namespace Go.Proofs.Rf
open Go Go.RowKit
end Go.Proofs.Rf
/- The functions, filled in. -/
set_option linter.unusedVariables false
namespace Go.Proofs.Rf
open Go Go.RowKit
noncomputable def Lg89_2 : sh89_2.den → Option (denX w89_2) := limL (S89_2)
noncomputable def L89 : (SV.denL ps89) → Option (rs89).den := F89 Lg89_2
theorem okL89 : CallOK Tryz.prog 89 (mkCall ps89 rs89 L89) := call89 (lim_limL _)
noncomputable def Lg121_10 : sh121_10.den → Option (denX w121_10) := limL (S121_10)
noncomputable def L121 : (SV.denL ps121) → Option (rs121).den := F121 Lg121_10
theorem okL121 : CallOK Tryz.prog 121 (mkCall ps121 rs121 L121) := call121 (lim_limL _)
noncomputable def L90 : (SV.denL ps90) → Option (rs90).den := F90 L121
theorem okL90 : CallOK Tryz.prog 90 (mkCall ps90 rs90 L90) := call90 okL121
noncomputable def L42 : (SV.denL ps42) → Option (rs42).den := F42 L89 L90
theorem okL42 : CallOK Tryz.prog 42 (mkCall ps42 rs42 L42) := call42 okL89 okL90
noncomputable def L59 : (SV.denL ps59) → Option (rs59).den := F59
theorem okL59 : CallOK Tryz.prog 59 (mkCall ps59 rs59 L59) := call59
noncomputable def L72 : (SV.denL ps72) → Option (rs72).den := F72
theorem okL72 : CallOK Tryz.prog 72 (mkCall ps72 rs72 L72) := call72
noncomputable def Lg91_5 : sh91_5.den → Option (denX w91_5) := limL (S91_5 L72)
noncomputable def L91 : (SV.denL ps91) → Option (rs91).den := F91 Lg91_5
theorem okL91 : CallOK Tryz.prog 91 (mkCall ps91 rs91 L91) := call91 okL72 (lim_limL _)
noncomputable def L43 : (SV.denL ps43) → Option (rs43).den := F43 L59 L91
theorem okL43 : CallOK Tryz.prog 43 (mkCall ps43 rs43 L43) := call43 okL59 okL91
noncomputable def L57 : (SV.denL ps57) → Option (rs57).den := F57
theorem okL57 : CallOK Tryz.prog 57 (mkCall ps57 rs57 L57) := call57
noncomputable def L126 : (SV.denL ps126) → Option (rs126).den := F126
theorem okL126 : CallOK Tryz.prog 126 (mkCall ps126 rs126 L126) := call126
abbrev L127 : (SV.denL ps127) → Option (rs127).den := F127
theorem okL127 : CallOK Tryz.prog 127 (mkCall ps127 rs127 L127) := call127
noncomputable def Lg128z_1 : sh128z_1.den → Option (denX w128z_1) := limL (S128z_1)
noncomputable def L128z : (psh128z.den) → Option (rs128z).den := F128z Lg128z_1
theorem okL128z : CallOK Tryz.prog 128 (mkCallB psh128z rs128z m128z 1 L128z) := call128z (lim_limL _)
noncomputable def L98 : (SV.denL ps98) → Option (rs98).den := F98 L126 L127 L128z
theorem okL98 : CallOK Tryz.prog 98 (mkCall ps98 rs98 L98) := call98 okL126 okL127 okL128z
noncomputable def L58 : (SV.denL ps58) → Option (rs58).den := F58 L98
theorem okL58 : CallOK Tryz.prog 58 (mkCall ps58 rs58 L58) := call58 okL98
noncomputable def L44 : (SV.denL ps44) → Option (rs44).den := F44 L57 L58
theorem okL44 : CallOK Tryz.prog 44 (mkCall ps44 rs44 L44) := call44 okL57 okL58
noncomputable def L16 : (SV.denL ps16) → Option (rs16).den := F16 L43
theorem okL16 : CallOK Tryz.prog 16 (mkCall ps16 rs16 L16) := call16 okL43
noncomputable def Lg96_2 : sh96_2.den → Option (denX w96_2) := limL (S96_2)
noncomputable def L96 : (SV.denL ps96) → Option (rs96).den := F96 Lg96_2
theorem okL96 : CallOK Tryz.prog 96 (mkCall ps96 rs96 L96) := call96 (lim_limL _)
noncomputable def Lg52_6 : sh52_6.den → Option (denX w52_6) := limL (S52_6)
noncomputable def L52 : (SV.denL ps52) → Option (rs52).den := F52 L96 Lg52_6
theorem okL52 : CallOK Tryz.prog 52 (mkCall ps52 rs52 L52) := call52 okL96 (lim_limL _)
noncomputable def L140 : (SV.denL ps140) → Option (rs140).den := iterF (fun R => F140 R) 100
theorem okL140 : CallOK Tryz.prog 140 (mkCall ps140 rs140 L140) := callOK_iter ⟨Tryz.f140, Tryz.func140, by kernel_rfl, by kernel_rfl⟩ (fun R hR => call140 hR) 100
noncomputable def L113 : (SV.denL ps113) → Option (rs113).den := F113 L140
theorem okL113 : CallOK Tryz.prog 113 (mkCall ps113 rs113 L113) := call113 okL140
noncomputable def L70 : (SV.denL ps70) → Option (rs70).den := F70 L52 L113
theorem okL70 : CallOK Tryz.prog 70 (mkCall ps70 rs70 L70) := call70 okL113 okL52
noncomputable def L112 : (SV.denL ps112) → Option (rs112).den := F112
theorem okL112 : CallOK Tryz.prog 112 (mkCall ps112 rs112 L112) := call112
noncomputable def Lg109_4 : sh109_4.den → Option (denX w109_4) := limL (S109_4 L112)
noncomputable def L109 : (SV.denL ps109) → Option (rs109).den := F109 Lg109_4
theorem okL109 : CallOK Tryz.prog 109 (mkCall ps109 rs109 L109) := call109 okL112 (lim_limL _)
noncomputable def Lg110_2 : sh110_2.den → Option (denX w110_2) := limL (S110_2 L112)
noncomputable def L110 : (SV.denL ps110) → Option (rs110).den := F110 Lg110_2
theorem okL110 : CallOK Tryz.prog 110 (mkCall ps110 rs110 L110) := call110 okL112 (lim_limL _)
noncomputable def Lg111_4 : sh111_4.den → Option (denX w111_4) := limL (S111_4 L112)
noncomputable def L111 : (SV.denL ps111) → Option (rs111).den := F111 Lg111_4
theorem okL111 : CallOK Tryz.prog 111 (mkCall ps111 rs111 L111) := call111 okL112 (lim_limL _)
noncomputable def L68 : (SV.denL ps68) → Option (rs68).den := F68 L96 L109 L110 L111
theorem okL68 : CallOK Tryz.prog 68 (mkCall ps68 rs68 L68) := call68 okL109 okL110 okL111 okL96
noncomputable def L93 : (SV.denL ps93) → Option (rs93).den := F93 L96
theorem okL93 : CallOK Tryz.prog 93 (mkCall ps93 rs93 L93) := call93 okL96
noncomputable def L82 : (SV.denL ps82) → Option (rs82).den := F82 L68 L93
theorem okL82 : CallOK Tryz.prog 82 (mkCall ps82 rs82 L82) := call82 okL68 okL93
noncomputable def Lg69_7 : sh69_7.den → Option (denX w69_7) := limL (S69_7 L112)
noncomputable def Lg69_3 : sh69_3.den → Option (denX w69_3) := limL (S69_3 Lg69_7)
noncomputable def L69 : (SV.denL ps69) → Option (rs69).den := F69 L96 Lg69_3
theorem okL69 : CallOK Tryz.prog 69 (mkCall ps69 rs69 L69) := call69 okL112 okL96 (lim_limL _) (lim_limL _)
noncomputable def Lg92_2 : sh92_2.den → Option (denX w92_2) := limL (S92_2 L69)
noncomputable def L92 : (SV.denL ps92) → Option (rs92).den := F92 L70 Lg92_2
theorem okL92 : CallOK Tryz.prog 92 (mkCall ps92 rs92 L92) := call92 okL69 okL70 (lim_limL _)
noncomputable def L45 : (SV.denL ps45) → Option (rs45).den := F45 L43 L70 L82 L92 L93
theorem okL45 : CallOK Tryz.prog 45 (mkCall ps45 rs45 L45) := call45 okL43 okL70 okL82 okL92 okL93
noncomputable def Lg46_7 : sh46_7.den → Option (denX w46_7) := limL (S46_7)
noncomputable def L46 : (SV.denL ps46) → Option (rs46).den := F46 Lg46_7
theorem okL46 : CallOK Tryz.prog 46 (mkCall ps46 rs46 L46) := call46 (lim_limL _)
noncomputable def Lg55_2 : sh55_2.den → Option (denX w55_2) := limL (S55_2)
noncomputable def L55 : (SV.denL ps55) → Option (rs55).den := F55 Lg55_2
theorem okL55 : CallOK Tryz.prog 55 (mkCall ps55 rs55 L55) := call55 (lim_limL _)
noncomputable def L56 : (SV.denL ps56) → Option (rs56).den := F56
theorem okL56 : CallOK Tryz.prog 56 (mkCall ps56 rs56 L56) := call56
noncomputable def L100 : (SV.denL ps100) → Option (rs100).den := F100
theorem okL100 : CallOK Tryz.prog 100 (mkCall ps100 rs100 L100) := call100
noncomputable def L120 : (SV.denL ps120) → Option (rs120).den := F120 L100
theorem okL120 : CallOK Tryz.prog 120 (mkCall ps120 rs120 L120) := call120 okL100
noncomputable def L88 : (SV.denL ps88) → Option (rs88).den := F88 L120
theorem okL88 : CallOK Tryz.prog 88 (mkCall ps88 rs88 L88) := call88 okL120
noncomputable def L41 : (SV.denL ps41) → Option (rs41).den := F41 L55 L56 L88 L89
theorem okL41 : CallOK Tryz.prog 41 (mkCall ps41 rs41 L41) := call41 okL55 okL56 okL88 okL89
noncomputable def Lg101_1 : sh101_1.den → Option (denX w101_1) := limL (S101_1)
noncomputable def L101 : (SV.denL ps101) → Option (rs101).den := F101 Lg101_1
theorem okL101 : CallOK Tryz.prog 101 (mkCall ps101 rs101 L101) := call101 (lim_limL _)
noncomputable def L115 : (SV.denL ps115) → Option (rs115).den := F115 L101
theorem okL115 : CallOK Tryz.prog 115 (mkCall ps115 rs115 L115) := call115 okL101
noncomputable def L118 : (SV.denL ps118) → Option (rs118).den := F118
theorem okL118 : CallOK Tryz.prog 118 (mkCall ps118 rs118 L118) := call118
noncomputable def LD142 : Dt142 := colLim (B142) (Y142)
theorem okLI142 : IterOK Tryz.prog 142 encs142 (cap142 LD142) := it142 (coll_colLim _ _)
noncomputable def Lg81_4 : List El142 → sh81_4.den → Option (sh81_4.den ⊕ denX w81_4) := foldR (S81_4 L90)
noncomputable def L81 : (SV.denL ps81) → Option (rs81).den := F81 L88 L115 L118 LD142 Lg81_4
theorem okL81 : CallOK Tryz.prog 81 (mkCall ps81 rs81 L81) := call81 okLI142 okL115 okL118 okL88 okL90 rfl
noncomputable def L47 : (SV.denL ps47) → Option (rs47).den := F47 L41 L42 L55 L81
theorem okL47 : CallOK Tryz.prog 47 (mkCall ps47 rs47 L47) := call47 okL41 okL42 okL55 okL81
noncomputable def L148 : (SV.denL ps148) → Option (rs148).den := F148
theorem okL148 : CallOK Tryz.prog 148 (mkCall ps148 rs148 L148) := call148
noncomputable def L123 : (SV.denL ps123) → Option (rs123).den := F123 L148
theorem okL123 : CallOK Tryz.prog 123 (mkCall ps123 rs123 L123) := call123 okL148
noncomputable def L149 : (SV.denL ps149) → Option (rs149).den := F149
theorem okL149 : CallOK Tryz.prog 149 (mkCall ps149 rs149 L149) := call149
noncomputable def L124 : (SV.denL ps124) → Option (rs124).den := F124 L149
theorem okL124 : CallOK Tryz.prog 124 (mkCall ps124 rs124 L124) := call124 okL149
noncomputable def Lg94_5 : sh94_5.den → Option (denX w94_5) := limL (S94_5 L124)
noncomputable def L94 : (SV.denL ps94) → Option (rs94).den := F94 L123 Lg94_5
theorem okL94 : CallOK Tryz.prog 94 (mkCall ps94 rs94 L94) := call94 okL123 okL124 (lim_limL _)
noncomputable def L49 : (SV.denL ps49) → Option (rs49).den := F49 L94
theorem okL49 : CallOK Tryz.prog 49 (mkCall ps49 rs49 L49) := call49 okL94
noncomputable def L48 : (SV.denL ps48) → Option (rs48).den := F48 L44 L49 L81
theorem okL48 : CallOK Tryz.prog 48 (mkCall ps48 rs48 L48) := call48 okL44 okL49 okL81
noncomputable def L95 : (SV.denL ps95) → Option (rs95).den := F95
theorem okL95 : CallOK Tryz.prog 95 (mkCall ps95 rs95 L95) := call95
noncomputable def LD125 : Dt125 := colLim (B125) (Y125)
theorem okLI125 : IterOK Tryz.prog 125 encs125 (cap125 LD125) := it125 (coll_colLim _ _)
noncomputable def Lg50_3 : List El125 → sh50_3.den → Option (sh50_3.den ⊕ denX w50_3) := foldR (S50_3)
noncomputable def L50 : (SV.denL ps50) → Option (rs50).den := F50 L57 L95 LD125 Lg50_3
theorem okL50 : CallOK Tryz.prog 50 (mkCall ps50 rs50 L50) := call50 okLI125 okL57 okL95 rfl
noncomputable def L17 : (SV.denL ps17) → Option (rs17).den := F17 L47 L48 L49 L50
theorem okL17 : CallOK Tryz.prog 17 (mkCall ps17 rs17 L17) := call17 okL47 okL48 okL49 okL50
noncomputable def Lg27_7 : sh27_7.den → Option (denX w27_7) := limL (S27_7 L72)
noncomputable def L27 : (SV.denL ps27) → Option (rs27).den := F27 L59 Lg27_7
theorem okL27 : CallOK Tryz.prog 27 (mkCall ps27 rs27 L27) := call27 okL59 okL72 (lim_limL _)
noncomputable def Lg51_2 : sh51_2.den → Option (denX w51_2) := limL (S51_2)
noncomputable def L51 : (SV.denL ps51) → Option (rs51).den := F51 Lg51_2
theorem okL51 : CallOK Tryz.prog 51 (mkCall ps51 rs51 L51) := call51 (lim_limL _)
noncomputable def L87 : (SV.denL ps87) → Option (rs87).den := F87 L110
theorem okL87 : CallOK Tryz.prog 87 (mkCall ps87 rs87 L87) := call87 okL110
noncomputable def L53 : (SV.denL ps53) → Option (rs53).den := F53 L45 L87
theorem okL53 : CallOK Tryz.prog 53 (mkCall ps53 rs53 L53) := call53 okL45 okL87
noncomputable def L60 : (SV.denL ps60) → Option (rs60).den := F60
theorem okL60 : CallOK Tryz.prog 60 (mkCall ps60 rs60 L60) := call60
noncomputable def Lg97_3 : sh97_3.den → Option (denX w97_3) := limL (S97_3)
noncomputable def L97 : (SV.denL ps97) → Option (rs97).den := F97 Lg97_3
theorem okL97 : CallOK Tryz.prog 97 (mkCall ps97 rs97 L97) := call97 (lim_limL _)
noncomputable def L54 : (SV.denL ps54) → Option (rs54).den := F54 L43 L60 L97
theorem okL54 : CallOK Tryz.prog 54 (mkCall ps54 rs54 L54) := call54 okL43 okL60 okL97
noncomputable def L18 : (SV.denL ps18) → Option (rs18).den := F18 L16 L27 L51 L52 L53 L54
theorem okL18 : CallOK Tryz.prog 18 (mkCall ps18 rs18 L18) := call18 okL16 okL27 okL51 okL52 okL53 okL54
noncomputable def L19 : (SV.denL ps19) → Option (rs19).den := F19 L42 L55 L56 L57 L58
theorem okL19 : CallOK Tryz.prog 19 (mkCall ps19 rs19 L19) := call19 okL42 okL55 okL56 okL57 okL58
noncomputable def Lg99_2 : sh99_2.den → Option (denX w99_2) := limL (S99_2)
noncomputable def L99 : (SV.denL ps99) → Option (rs99).den := F99 Lg99_2
theorem okL99 : CallOK Tryz.prog 99 (mkCall ps99 rs99 L99) := call99 (lim_limL _)
noncomputable def L61 : (SV.denL ps61) → Option (rs61).den := F61 L43 L70 L82 L92 L99
theorem okL61 : CallOK Tryz.prog 61 (mkCall ps61 rs61 L61) := call61 okL43 okL70 okL82 okL92 okL99
noncomputable def L20 : (SV.denL ps20) → Option (rs20).den := F20 L43 L46 L51 L59 L60 L61
theorem okL20 : CallOK Tryz.prog 20 (mkCall ps20 rs20 L20) := call20 okL43 okL46 okL51 okL59 okL60 okL61
noncomputable def L21 : (SV.denL ps21) → Option (rs21).den := F21 L47 L50
theorem okL21 : CallOK Tryz.prog 21 (mkCall ps21 rs21 L21) := call21 okL47 okL50
noncomputable def L22 : (SV.denL ps22) → Option (rs22).den := F22 L16 L27 L51 L52 L54
theorem okL22 : CallOK Tryz.prog 22 (mkCall ps22 rs22 L22) := call22 okL16 okL27 okL51 okL52 okL54
noncomputable def L23 : (SV.denL ps23) → Option (rs23).den := F23 L47 L48 L50
theorem okL23 : CallOK Tryz.prog 23 (mkCall ps23 rs23 L23) := call23 okL47 okL48 okL50
noncomputable def L62 : (SV.denL ps62) → Option (rs62).den := F62 L45 L87
theorem okL62 : CallOK Tryz.prog 62 (mkCall ps62 rs62 L62) := call62 okL45 okL87
noncomputable def L24 : (SV.denL ps24) → Option (rs24).den := F24 L16 L27 L51 L52 L54 L62
theorem okL24 : CallOK Tryz.prog 24 (mkCall ps24 rs24 L24) := call24 okL16 okL27 okL51 okL52 okL54 okL62
noncomputable def Lg9_2 : sh9_2.den → Option (denX w9_2) := limL (S9_2)
noncomputable def L9 : (SV.denL ps9) → Option (rs9).den := F9 Lg9_2
theorem okL9 : CallOK Tryz.prog 9 (mkCall ps9 rs9 L9) := call9 (lim_limL _)
end Go.Proofs.Rf
/- Limbs of base ten and of base ten to the ninth. -/
namespace Go.Proofs.Rf
open Go

/-- Loops: what holds at the head, and becomes smaller. -/
theorem limL_ind {A B : Type} {f : A → Option (A ⊕ B)} (μ : A → Nat) (I : A → Prop) (Q : B → Prop) (h : ∀ x, I x → (∃ y, f x = some (.inl y) ∧ I y ∧ μ y < μ x) ∨ ∃ z, f x = some (.inr z) ∧ Q z) : ∀ x, I x → ∃ z, limL f x = some z ∧ Q z := by
  have key : ∀ n x, μ x = n → I x → ∃ z, limL f x = some z ∧ Q z := by
    intro n
    induction n using Nat.strongRecOn with
    | _ n ih =>
      intro x hx hI
      rw [limL_eq]
      rcases h x hI with ⟨y, h1, h2, h3⟩ | ⟨z, h1, h2⟩
      · rw [h1]
        exact ih (μ y) (by omega) y rfl h2
      · rw [h1]
        exact ⟨z, rfl, h2⟩
  exact fun x hI => key _ x rfl hI

theorem w64 {n : Int} (h0 : 0 ≤ n) (h1 : n < 18446744073709551616) : IntKind.u64.wrap n = n := by
  simp [IntKind.wrap, IntKind.bits, IntKind.signed]
  omega

theorem w32 {n : Int} (h0 : 0 ≤ n) (h1 : n < 4294967296) : IntKind.u32.wrap n = n := by
  simp [IntKind.wrap, IntKind.bits, IntKind.signed]
  omega

theorem w8 {n : Int} (h0 : 0 ≤ n) (h1 : n < 256) : IntKind.u8.wrap n = n := by
  simp [IntKind.wrap, IntKind.bits, IntKind.signed]
  omega

theorem wi {n : Int} (h0 : -9223372036854775808 ≤ n) (h1 : n < 9223372036854775808) : IntKind.i64.wrap n = n := by
  simp [IntKind.wrap, IntKind.bits, IntKind.signed]
  omega

theorem getD_big {a : List Int} {i : Nat} (h : a.length ≤ i) : a.getD i 0 = 0 := by
  rw [List.getD_eq_getElem?_getD, List.getElem?_eq_none h]; rfl

theorem drop_at {l : List Int} {i : Nat} (h : i < l.length) : l.drop i = l.getD i 0 :: l.drop (i + 1) := by
  rw [List.drop_eq_getElem_cons h, List.getD_eq_getElem?_getD, List.getElem?_eq_getElem h]
  rfl

theorem getD_set {r : List Int} {i k : Nat} {v : Int} : (r.set i v).getD k 0 = if i = k ∧ i < r.length then v else r.getD k 0 := by
  simp only [List.getD_eq_getElem?_getD, List.getElem?_set]
  split
  · rename_i h
    subst h
    split
    · rename_i h; simp [h]
    · rename_i h; simp [h]
  · rename_i h; simp [h]

def bor (d : Int) : Int := if d < 0 then 1 else 0

theorem bor_range (d : Int) : 0 ≤ bor d ∧ bor d ≤ 1 := by
  unfold bor
  split <;> omega

def sgn (neg : Bool) (n : Nat) : Int := if neg = true then -(n : Int) else (n : Int)

theorem len_pos_int {l : List Int} : decide ((l.length : Int) > 0) = decide (0 < l.length) := by
  rw [decide_eq_decide]
  omega

theorem sgn_mul (x y : Int) : sgn (!(decide (x < 0) == decide (y < 0))) (x.natAbs * y.natAbs) = x * y := by
  unfold sgn
  by_cases hx : x < 0
  · rw [decide_eq_true hx]
    obtain ⟨a, rfl⟩ : ∃ a : Nat, x = -(a : Int) := ⟨x.natAbs, by omega⟩
    by_cases hy : y < 0
    · rw [decide_eq_true hy]
      obtain ⟨b, rfl⟩ : ∃ b : Nat, y = -(b : Int) := ⟨y.natAbs, by omega⟩
      simp [Int.natAbs_neg] <;> grind
    · rw [decide_eq_false hy]
      obtain ⟨b, rfl⟩ : ∃ b : Nat, y = (b : Int) := ⟨y.natAbs, by omega⟩
      simp [Int.natAbs_neg] <;> grind
  · rw [decide_eq_false hx]
    obtain ⟨a, rfl⟩ : ∃ a : Nat, x = (a : Int) := ⟨x.natAbs, by omega⟩
    by_cases hy : y < 0
    · rw [decide_eq_true hy]
      obtain ⟨b, rfl⟩ : ∃ b : Nat, y = -(b : Int) := ⟨y.natAbs, by omega⟩
      simp [Int.natAbs_neg] <;> grind
    · rw [decide_eq_false hy]
      obtain ⟨b, rfl⟩ : ∃ b : Nat, y = (b : Int) := ⟨y.natAbs, by omega⟩
      simp

theorem ofInt_toNat (n x : Nat) (h : x < 2 ^ n) : (BitVec.ofInt n (x : Int)).toNat = x := by
  rw [BitVec.ofInt_natCast, BitVec.toNat_ofNat, Nat.mod_eq_of_lt h]

theorem and64 {x y : Nat} (hx : x < 18446744073709551616) (hy : y < 18446744073709551616) : bitop .and .u64 (x : Int) (y : Int) = ((x &&& y : Nat) : Int) := by
  show IntKind.u64.wrap ((((BitVec.ofInt 64 (x : Int)) &&& (BitVec.ofInt 64 (y : Int))).toNat : Nat) : Int) = _
  rw [BitVec.toNat_and, ofInt_toNat 64 x hx, ofInt_toNat 64 y hy]
  have := @Nat.and_le_left x y
  exact w64 (by omega) (by omega)

theorem fdiv_pow (x : Nat) (k : Nat) : Int.fdiv (x : Int) (2 ^ k) = ((x / 2 ^ k : Nat) : Int) := by
  have h : (2 : Int) ^ k = ((2 ^ k : Nat) : Int) := by simp
  rw [h, Int.fdiv_eq_ediv_of_nonneg _ (Int.natCast_nonneg _)]
  simp

theorem wu64 (n : Int) : IntKind.u64.wrap n = n % 18446744073709551616 := rfl

theorem w64nat {m : Nat} (h : m < 2 ^ 64) : IntKind.u64.wrap (m : Int) = (m : Int) := w64 (by omega) (by omega)

theorem pow64 {w : Nat} (h : w < 64) : IntKind.u64.wrap (1 * 2 ^ min (Int.toNat (w : Int)) 64) = ((2 ^ w : Nat) : Int) := by
  have h1 : 2 ^ w < 2 ^ 64 := Nat.pow_lt_pow_right (by decide) h
  have h2 : (1 : Int) * 2 ^ w = ((2 ^ w : Nat) : Int) := by simp
  rw [Int.toNat_natCast, Nat.min_eq_left (by omega), h2, w64nat h1]

namespace D
def val : List Int → Int
  | [] => 0
  | x :: r => x + 10 * val r

def Wf (l : List Int) : Prop := ∀ x ∈ l, 0 ≤ x ∧ x < 10

theorem Wf.nil : Wf [] := fun _ h => by cases h

theorem Wf.cons {x : Int} {r : List Int} (h0 : 0 ≤ x) (h1 : x < 10) (h : Wf r) : Wf (x :: r) := by
  intro y hy
  rcases List.mem_cons.1 hy with rfl | hy
  · exact ⟨h0, h1⟩
  · exact h y hy

theorem Wf.head {x : Int} {r : List Int} (h : Wf (x :: r)) : 0 ≤ x ∧ x < 10 := h x (List.mem_cons_self ..)

theorem Wf.tail {x : Int} {r : List Int} (h : Wf (x :: r)) : Wf r := fun y hy => h y (List.mem_cons_of_mem _ hy)

theorem Wf.append {a b : List Int} (h : Wf a) (k : Wf b) : Wf (a ++ b) := fun x hx => (List.mem_append.1 hx).elim (h x) (k x)

theorem Wf.take {a : List Int} (h : Wf a) (n : Nat) : Wf (a.take n) := fun x hx => h x (List.mem_of_mem_take hx)

theorem Wf.getD {a : List Int} (h : Wf a) (i : Nat) : 0 ≤ a.getD i 0 ∧ a.getD i 0 < 10 := by
  rw [List.getD_eq_getElem?_getD]
  cases hi : a[i]? with
  | none => simp
  | some x => exact h x (List.mem_of_getElem? hi)

theorem Wf.set {a : List Int} (h : Wf a) (i : Nat) {x : Int} (h0 : 0 ≤ x) (h1 : x < 10) : Wf (a.set i x) := by
  intro y hy
  rcases List.mem_or_eq_of_mem_set hy with hy | rfl
  · exact h y hy
  · exact ⟨h0, h1⟩

theorem Wf.replicate (n : Nat) : Wf (List.replicate n 0) := by
  intro x hx
  rw [(List.mem_replicate.1 hx).2]
  decide

theorem val_nonneg : ∀ {l : List Int}, Wf l → 0 ≤ val l
  | [], _ => Int.le_refl 0
  | x :: r, h => by
    have h1 := val_nonneg h.tail
    have h2 := h.head
    simp only [val]
    omega

theorem val_append (a b : List Int) : val (a ++ b) = val a + 10 ^ a.length * val b := by
  induction a with
  | nil => simp [val]
  | cons x r ih =>
    simp only [List.cons_append, val, ih, List.length_cons, Int.pow_succ]
    rw [Int.mul_add, Int.add_assoc]
    congr 2
    rw [Int.mul_comm (10 ^ r.length) 10, Int.mul_assoc]

theorem val_lt {l : List Int} (h : Wf l) : val l < 10 ^ l.length := by
  induction l with
  | nil => simp [val]
  | cons x r ih =>
    have h1 := ih h.tail
    have h2 := h.head
    simp only [val, List.length_cons, Int.pow_succ]
    omega

theorem val_replicate (n : Nat) : val (List.replicate n 0) = 0 := by
  induction n with
  | zero => rfl
  | succ n ih => simp [List.replicate_succ, val, ih]

/-- The canonical list. -/
def lim (n : Nat) : List Int := if h : n = 0 then [] else ((n % 10 : Nat) : Int) :: lim (n / 10)
decreasing_by exact Nat.div_lt_self (Nat.pos_of_ne_zero h) (by decide)

theorem lim_zero : lim 0 = [] := by rw [lim]; simp

theorem lim_pos {n : Nat} (h : n ≠ 0) : lim n = ((n % 10 : Nat) : Int) :: lim (n / 10) := by rw [lim, dif_neg h]

theorem val_lim (n : Nat) : val (lim n) = n := by
  induction n using Nat.strongRecOn with
  | _ n ih =>
    by_cases h : n = 0
    · subst h; rw [lim_zero]; rfl
    · rw [lim_pos h, val, ih _ (Nat.div_lt_self (Nat.pos_of_ne_zero h) (by decide))]
      omega

theorem Wf_lim (n : Nat) : Wf (lim n) := by
  induction n using Nat.strongRecOn with
  | _ n ih =>
    by_cases h : n = 0
    · subst h; rw [lim_zero]; exact Wf.nil
    · rw [lim_pos h]
      exact Wf.cons (by omega) (by omega) (ih _ (Nat.div_lt_self (Nat.pos_of_ne_zero h) (by decide)))

/-- No zero at the end. -/
def Nm : List Int → Prop
  | [] => True
  | [x] => x ≠ 0
  | _ :: r => Nm r

theorem Nm.tail {x y : Int} {r : List Int} (h : Nm (x :: y :: r)) : Nm (y :: r) := h

theorem val_pos : ∀ {l : List Int}, Wf l → Nm l → l ≠ [] → 0 < val l
  | [], _, _, h => absurd rfl h
  | [x], hw, hn, _ => by
    have := hw.head
    have hn : x ≠ 0 := hn
    simp only [val]
    omega
  | x :: y :: r, hw, hn, _ => by
    have h1 := val_pos hw.tail hn.tail (by simp)
    have h2 := hw.head
    rw [val]
    omega

theorem lim_val : ∀ {l : List Int}, Wf l → Nm l → lim (val l).toNat = l
  | [], _, _ => lim_zero
  | x :: r, hw, hn => by
    have hp := val_pos hw hn (by simp)
    have h2 := hw.head
    have h3 := val_nonneg hw.tail
    rw [lim_pos (by omega)]
    have e1 : (((val (x :: r)).toNat % 10 : Nat) : Int) = x := by
      simp only [val] at hp ⊢
      omega
    have e2 : (val (x :: r)).toNat / 10 = (val r).toNat := by
      simp only [val] at hp ⊢
      omega
    rw [e1, e2]
    congr 1
    cases r with
    | nil => exact lim_zero
    | cons y r => exact lim_val hw.tail hn.tail

theorem Nm_lim (n : Nat) : Nm (lim n) := by
  induction n using Nat.strongRecOn with
  | _ n ih =>
    by_cases h : n = 0
    · subst h; rw [lim_zero]; trivial
    · rw [lim_pos h]
      have hlt := Nat.div_lt_self (Nat.pos_of_ne_zero h) (show 1 < 10 by decide)
      by_cases h2 : n / 10 = 0
      · rw [h2, lim_zero]
        show ((n % 10 : Nat) : Int) ≠ 0
        omega
      · have := ih _ hlt
        rw [lim_pos h2] at this ⊢
        exact this

/-- The list without zeros at the end is the canonical one. -/
theorem take_lim {l : List Int} (hw : Wf l) {n : Nat} (hn : n ≤ l.length) (hz : ∀ i, n ≤ i → i < l.length → l.getD i 0 = 0) (hl : 0 < n → l.getD (n - 1) 0 ≠ 0) : l.take n = lim (val l).toNat := by
  have hz2 : ∀ (r : List Int), (∀ i, i < r.length → r.getD i 0 = 0) → val r = 0 := by
    intro r
    induction r with
    | nil => intro _; rfl
    | cons x r ih =>
      intro h
      have h0 := h 0 (by simp)
      have h1 := ih fun i hi => by have := h (i + 1) (by simpa using hi); simpa using this
      simp only [List.getD_cons_zero] at h0
      simp [val, h0, h1]
  have hv : val l = val (l.take n) := by
    conv => lhs; rw [← List.take_append_drop n l]
    rw [val_append, hz2 (l.drop n) fun i hi => ?_]
    · simp
    · have := hz (n + i) (by omega) (by simp at hi; omega)
      simpa [List.getD_eq_getElem?_getD] using this
  have hNm : ∀ (r : List Int), (r ≠ [] → r.getD (r.length - 1) 0 ≠ 0) → Nm r := by
    intro r
    induction r with
    | nil => intro _; trivial
    | cons x r ih =>
      intro h
      cases r with
      | nil =>
        have := h (by simp)
        show x ≠ 0
        simpa using this
      | cons y r =>
        show Nm (y :: r)
        refine ih fun _ => ?_
        have := h (by simp)
        simpa using this
  have hn2 : Nm (l.take n) := by
    refine hNm _ fun hne => ?_
    have hlen : (l.take n).length = n := by simp; omega
    have hnp : 0 < n := by
      rcases Nat.eq_zero_or_pos n with e | e
      · subst e; exact absurd (by simp) hne
      · exact e
    rw [hlen]
    have := hl hnp
    rw [List.getD_eq_getElem?_getD] at this ⊢
    rw [List.getElem?_take_of_lt (by omega)]
    exact this
  rw [hv]
  exact (lim_val (hw.take n) hn2).symm

theorem val_take_succ (a : List Int) (i : Nat) : val (a.take (i + 1)) = val (a.take i) + 10 ^ i * a.getD i 0 := by
  rcases Nat.lt_or_ge i a.length with h | h
  · rw [List.take_succ_eq_append_getElem h, val_append, List.getD_eq_getElem?_getD, List.getElem?_eq_getElem h]
    simp [val, List.length_take, Nat.min_eq_left (Nat.le_of_lt h)]
  · rw [List.take_of_length_le (by omega), List.take_of_length_le h, getD_big h]
    simp

theorem val_set {r : List Int} {i : Nat} (h : i < r.length) (v : Int) : val (r.set i v) = val r + 10 ^ i * (v - r.getD i 0) := by
  induction r generalizing i with
  | nil => simp at h
  | cons x r ih =>
    cases i with
    | zero => simp [val]; omega
    | succ i =>
      have := ih (i := i) (by simpa using h)
      simp only [List.set_cons_succ, val, this, List.getD_cons_succ, Int.pow_succ]
      grind

theorem powB (i : Nat) : (10 : Int) ^ (i + 1) = 10 ^ i * 10 := Int.pow_succ ..

theorem powB_pos (i : Nat) : (0 : Int) < 10 ^ i := Int.pow_pos (by decide)

theorem val_take_all {a : List Int} {i : Nat} (h : a.length ≤ i) : val (a.take i) = val a := by rw [List.take_of_length_le h]

/-- One limb of a sum. -/
theorem add_limb {P c x y s V : Int} (hs : s = c + x + y) : P * (s % 10) + P * 10 * (s / 10) + V = V + P * c + P * x + P * y := by
  have h : s % 10 + 10 * (s / 10) = s := by omega
  grind

/-- One limb of a product. -/
theorem mul_limb {P c x y r s V : Int} (hs : s = c + x * y + r) : V + P * (s % 10 - r) + P * 10 * (s / 10) = V + P * c + P * (x * y) := by
  have h : s % 10 + 10 * (s / 10) = s := by omega
  grind

theorem mul_bound {c x y r : Int} (hc : 0 ≤ c) (hc' : c < 10) (hx : 0 ≤ x) (hx' : x < 10) (hy : 0 ≤ y) (hy' : y < 10) (hr : 0 ≤ r) (hr' : r < 10) :
    0 ≤ x * y ∧ x * y ≤ 81 ∧ 0 ≤ c + x * y + r ∧ c + x * y + r < 100 := by
  have h1 := Int.mul_le_mul (show x ≤ 9 by omega) (show y ≤ 9 by omega) hy (by decide)
  have h2 := Int.mul_nonneg hx hy
  have h3 : (9 : Int) * 9 = 81 := by decide
  rw [h3] at h1
  omega

theorem tdivB {n : Int} (h : 0 ≤ n) : n.tdiv 10 = n / 10 := Int.tdiv_eq_ediv_of_nonneg h

theorem tmodB {n : Int} (h : 0 ≤ n) : n.tmod 10 = n % 10 := Int.tmod_eq_emod_of_nonneg h

theorem powB_mono {i j : Nat} (h : i ≤ j) : (10 : Int) ^ i ≤ 10 ^ j := by
  induction h with
  | refl => exact Int.le_refl _
  | step h ih =>
    rename_i m
    have := powB_pos m
    rw [powB]
    omega

/-- What the inner loop does: x times b is added from place i on. -/
structure InnerOK (b r : List Int) (i : Nat) (x : Int) (k : Nat) (c : Int) (r' : List Int) : Prop where
  len : r'.length = r.length
  wf : Wf r'
  c0 : 0 ≤ c
  c1 : c < 10
  vl : val r' + 10 ^ (i + k) * c = val r + 10 ^ i * (x * val (b.take k))
  hi : ∀ j, i + k ≤ j → r'.getD j 0 = r.getD j 0

theorem InnerOK.zero {b r : List Int} {i : Nat} {x : Int} (hw : Wf r) : InnerOK b r i x 0 0 r :=
  ⟨rfl, hw, by omega, by omega, by simp [val], fun _ _ => rfl⟩

theorem InnerOK.step {b r : List Int} {i : Nat} {x : Int} {k : Nat} {c : Int} {r' : List Int} (h : InnerOK b r i x k c r') (wb : Wf b) (hx : 0 ≤ x) (hx1 : x < 10) (hk : i + k < r.length) :
    InnerOK b r i x (k + 1) ((c + x * b.getD k 0 + r'.getD (i + k) 0) / 10) (r'.set (i + k) ((c + x * b.getD k 0 + r'.getD (i + k) 0) % 10)) := by
  have xb := wb.getD k
  have xr := h.wf.getD (i + k)
  have hb := mul_bound h.c0 h.c1 hx hx1 xb.1 xb.2 xr.1 xr.2
  have hl := h.len
  refine ⟨by simp [hl], h.wf.set _ (by omega) (by omega), by omega, by omega, ?_, fun j hj => ?_⟩
  · rw [val_set (by omega), val_take_succ, show i + (k + 1) = (i + k) + 1 by omega, powB]
    have e1 := mul_limb (P := 10 ^ (i + k)) (V := val r') (c := c) (x := x) (y := b.getD k 0) (r := r'.getD (i + k) 0) (s := c + x * b.getD k 0 + r'.getD (i + k) 0) rfl
    have e2 : (10 : Int) ^ (i + k) = 10 ^ i * 10 ^ k := Int.pow_add ..
    have e3 := h.vl
    grind
  · rw [getD_set, if_neg (by omega)]
    exact h.hi j (by omega)

/-- The outer loop: a's first i limbs times b. -/
structure OuterOK (a b : List Int) (i : Nat) (r : List Int) : Prop where
  len : r.length = a.length + b.length
  wf : Wf r
  vl : val r = val (a.take i) * val b
  hi : ∀ j, i + b.length ≤ j → r.getD j 0 = 0

theorem OuterOK.zero (a b : List Int) : OuterOK a b 0 (List.replicate (a.length + b.length) 0) :=
  ⟨by simp, Wf.replicate _, by simp [val, val_replicate], fun j _ => by
    rw [List.getD_eq_getElem?_getD, List.getElem?_replicate]
    split <;> rfl⟩

theorem OuterOK.step {a b : List Int} {i : Nat} {r r' : List Int} {c : Int} (h : OuterOK a b i r) (hI : InnerOK b r i (a.getD i 0) b.length c r') (hi : i < a.length) : OuterOK a b (i + 1) (r'.set (i + b.length) c) := by
  have hl := h.len
  have hl' := hI.len
  have h0 : r'.getD (i + b.length) 0 = 0 := by rw [hI.hi _ (Nat.le_refl _), h.hi _ (Nat.le_refl _)]
  refine ⟨by simp [hl', hl], hI.wf.set _ hI.c0 hI.c1, ?_, fun j hj => ?_⟩
  · rw [val_set (by omega), h0, val_take_succ]
    have e1 := hI.vl
    have e2 := h.vl
    rw [val_take_all (Nat.le_refl _)] at e1
    grind
  · rw [getD_set, if_neg (by omega), hI.hi _ (by omega), h.hi _ (by omega)]

theorem lim_eq_nil {n : Nat} : lim n = [] ↔ n = 0 := by
  constructor
  · intro h
    have := val_lim n
    rw [h] at this
    simp only [val] at this
    omega
  · rintro rfl
    exact lim_zero

theorem lim_inj {a b : Nat} (h : lim a = lim b) : a = b := by
  have h1 := val_lim a
  have h2 := val_lim b
  rw [h] at h1
  omega

theorem Nm.last : ∀ {l : List Int}, Nm l → 0 < l.length → l.getD (l.length - 1) 0 ≠ 0
  | [x], h, _ => h
  | x :: y :: r, h, _ => by
    have := Nm.last (l := y :: r) h (by simp)
    simpa using this

theorem castB (m : Nat) : ((10 ^ m : Nat) : Int) = (10 : Int) ^ m := Int.natCast_pow 10 m

theorem lim_length_of {n k : Nat} (h : n < 10 ^ k) : (lim n).length ≤ k := by
  by_cases h0 : n = 0
  · subst h0; rw [lim_zero]; simp
  · have hp : 0 < (lim n).length := by
      rcases Nat.eq_zero_or_pos (lim n).length with q | q
      · exact (h0 (lim_eq_nil.1 (List.eq_nil_of_length_eq_zero q))).elim
      · exact q
    obtain ⟨m, hm⟩ : ∃ m, (lim n).length = m + 1 := ⟨(lim n).length - 1, by omega⟩
    have h1 := (Nm_lim n).last hp
    have h2 := val_take_succ (lim n) m
    rw [← hm, List.take_length, val_lim] at h2
    have h3 := val_nonneg ((Wf_lim n).take m)
    have h4 := (Wf_lim n).getD m
    rw [hm, Nat.add_sub_cancel] at h1
    have h5 : (10 : Int) ^ m ≤ n := by
      have h6 : (10 : Int) ^ m * 1 ≤ 10 ^ m * (lim n).getD m 0 := Int.mul_le_mul_of_nonneg_left (by omega) (Int.le_of_lt (powB_pos m))
      omega
    have h7 : 10 ^ m ≤ n := by rw [← castB] at h5; exact Int.ofNat_le.1 h5
    have h8 : 10 ^ m < 10 ^ k := by omega
    have := (Nat.pow_lt_pow_iff_right (by decide : 1 < 10)).1 h8
    omega

theorem lim_lt (n : Nat) : n < 10 ^ (lim n).length := by
  have := val_lt (Wf_lim n)
  rw [val_lim, ← castB] at this
  exact Int.ofNat_lt.1 this

theorem lim_length_mono {a b : Nat} (h : a ≤ b) : (lim a).length ≤ (lim b).length := lim_length_of (Nat.lt_of_le_of_lt h (lim_lt b))

/-- An integer as the texts hold it. -/
def zl (z : Int) : Bool × List Int := (decide (z < 0), lim z.natAbs)

theorem val_split (l : List Int) (k : Nat) (h : k ≤ l.length) : val l = val (l.take k) + 10 ^ k * val (l.drop k) := by
  have := val_append (l.take k) (l.drop k)
  rw [List.take_append_drop, List.length_take, Nat.min_eq_left h] at this
  exact this

theorem val_take_lt {l : List Int} (hw : Wf l) (k : Nat) (h : k ≤ l.length) : val (l.take k) < 10 ^ k := by
  have := val_lt (hw.take k)
  rw [List.length_take, Nat.min_eq_left h] at this
  exact this

/-- Equal above a place, less there: less. -/
theorem lt_at {a b : List Int} (wa : Wf a) (wb : Wf b) {k : Nat} (ha : k < a.length) (hb : k < b.length) (he : a.drop (k + 1) = b.drop (k + 1)) (hlt : a.getD k 0 < b.getD k 0) : val a < val b := by
  rw [val_split a k (by omega), val_split b k (by omega), drop_at ha, drop_at hb, he]
  simp only [val]
  have h1 := val_take_lt wa k (by omega)
  have h2 := val_nonneg (wb.take k)
  have h3 := powB_pos k
  generalize (10 : Int) ^ k = P at *
  generalize val (b.drop (k + 1)) = V at *
  generalize a.getD k 0 = A at *
  generalize b.getD k 0 = C at *
  have h4 : P * (A + 10 * V) + P = P * (A + 1 + 10 * V) := by grind
  have h5 : P * (A + 1 + 10 * V) ≤ P * (C + 10 * V) := Int.mul_le_mul_of_nonneg_left (by omega) (by omega)
  omega

theorem lim_shorter {a b : Nat} (h : (lim a).length < (lim b).length) : a < b := by
  rcases Nat.lt_or_ge a b with q | q
  · exact q
  · have := lim_length_mono q
    omega

theorem sub_limb {P c x y V : Int} (t : Int) (h : t = if x - y - c < 0 then 1 else 0) : V + P * ((x - y - c) % 10) - P * 10 * t = V + P * x - P * y - P * c ∨ ¬ (0 ≤ x ∧ x < 10 ∧ 0 ≤ y ∧ y < 10 ∧ 0 ≤ c ∧ c ≤ 1) := by
  by_cases q : 0 ≤ x ∧ x < 10 ∧ 0 ≤ y ∧ y < 10 ∧ 0 ≤ c ∧ c ≤ 1
  · left
    have h2 : (x - y - c) % 10 = x - y - c + 10 * t := by
      rw [h]
      split <;> omega
    rw [h2]
    grind
  · exact .inr q

/-- One round of a difference: what its invariant says. -/
structure SubOK (a b : List Int) (i : Nat) (r : List Int) (c : Int) : Prop where
  wf : Wf r
  c0 : 0 ≤ c
  c1 : c ≤ 1
  v : val (r.take i) - 10 ^ i * c = val (a.take i) - val (b.take i)

theorem SubOK.step {a b r r' : List Int} {i : Nat} {c : Int} (h : SubOK a b i r c) (wa : Wf a) (wb : Wf b) (hr : r'.take i = r.take i) (hw : Wf r') (hd : r'.getD i 0 = (a.getD i 0 - b.getD i 0 - c) % 10) : SubOK a b (i + 1) r' (bor (a.getD i 0 - b.getD i 0 - c)) := by
  refine ⟨hw, (bor_range _).1, (bor_range _).2, ?_⟩
  rw [val_take_succ, val_take_succ, val_take_succ, powB, hr, hd]
  have h1 := wa.getD i
  have h2 := wb.getD i
  have h3 := h.v
  have h4 := sub_limb (P := 10 ^ i) (c := c) (x := a.getD i 0) (y := b.getD i 0) (V := val (r.take i)) (bor (a.getD i 0 - b.getD i 0 - c)) rfl
  rcases h4 with h4 | h4
  · grind
  · exact (h4 ⟨h1.1, h1.2, h2.1, h2.2, h.c0, h.c1⟩).elim

theorem SubOK.done {a b r : List Int} {c : Int} (h : SubOK a b a.length r c) (hr : r.length = a.length) (hb : b.length ≤ a.length) (hle : val b ≤ val a) : val r = val a - val b := by
  have h1 := h.v
  rw [val_take_all (by omega), val_take_all (Nat.le_refl _), val_take_all hb] at h1
  have h2 := val_lt h.wf
  rw [hr] at h2
  have h3 := h.c0
  have h4 := h.c1
  have h5 := powB_pos a.length
  generalize (10 : Int) ^ a.length = P at *
  rcases (show c = 0 ∨ c = 1 by omega) with rfl | rfl
  · omega
  · omega

theorem sgn_natAbs (neg : Bool) (n : Nat) : (sgn neg n).natAbs = n := by
  unfold sgn
  cases neg <;> simp

theorem zl_sgn (neg : Bool) (n : Nat) : zl (sgn neg n) = (neg && decide (0 < (lim n).length), lim n) := by
  unfold zl
  rw [sgn_natAbs]
  congr 1
  unfold sgn
  cases neg
  · simp
  · simp only [if_true, Bool.true_and]
    rw [decide_eq_decide]
    constructor
    · intro h
      rcases Nat.eq_zero_or_pos (lim n).length with q | q
      · have := lim_eq_nil.1 (List.eq_nil_of_length_eq_zero q)
        omega
      · exact q
    · intro h
      have : n ≠ 0 := by
        rintro rfl
        rw [lim_zero] at h
        simp at h
      omega

theorem sgn_zl (z : Int) : sgn (decide (z < 0)) z.natAbs = z := by
  unfold sgn
  by_cases h : z < 0
  · rw [decide_eq_true h, if_pos rfl]; omega
  · rw [decide_eq_false h, if_neg (by decide)]; omega

/-- So long at most. -/
def Sz (k : Nat) (z : Int) : Prop := (lim z.natAbs).length ≤ k

theorem lim_add_length (a b : Nat) : (lim (a + b)).length ≤ max (lim a).length (lim b).length + 1 := by
  refine lim_length_of ?_
  have h1 := lim_lt a
  have h2 := lim_lt b
  have h3 : 10 ^ (lim a).length ≤ 10 ^ max (lim a).length (lim b).length := Nat.pow_le_pow_right (by decide) (Nat.le_max_left ..)
  have h4 : 10 ^ (lim b).length ≤ 10 ^ max (lim a).length (lim b).length := Nat.pow_le_pow_right (by decide) (Nat.le_max_right ..)
  rw [Nat.pow_succ]
  omega

theorem Sz.add {j k : Nat} {x y : Int} (hx : Sz j x) (hy : Sz k y) : Sz (max j k + 1) (x + y) := by
  have h1 := lim_add_length x.natAbs y.natAbs
  have h2 := lim_length_mono (Int.natAbs_add_le x y)
  unfold Sz at *
  omega

theorem lim_mul_length (a b : Nat) : (lim (a * b)).length ≤ (lim a).length + (lim b).length := by
  refine lim_length_of ?_
  rw [Nat.pow_add]
  have h1 := lim_lt a
  have h2 := lim_lt b
  by_cases hb : b = 0
  · subst hb
    rw [Nat.mul_zero]
    exact Nat.mul_pos (Nat.pow_pos (by decide)) (Nat.pow_pos (by decide))
  · exact Nat.mul_lt_mul_of_lt_of_le h1 (Nat.le_of_lt h2) (Nat.lt_of_le_of_lt (Nat.zero_le _) h2)

theorem Sz.mul {j k : Nat} {x y : Int} (hx : Sz j x) (hy : Sz k y) : Sz (j + k) (x * y) := by
  unfold Sz at *
  rw [Int.natAbs_mul]
  have := lim_mul_length x.natAbs y.natAbs
  omega

theorem Sz.neg {k : Nat} {x : Int} (hx : Sz k x) : Sz k (-x) := by
  unfold Sz at *
  rw [Int.natAbs_neg]
  exact hx

theorem Sz.mono {j k : Nat} {x : Int} (h : Sz j x) (hk : j ≤ k) : Sz k x := Nat.le_trans h hk

theorem Sz.le {k : Nat} {x y : Int} (h : Sz k y) (hx : x.natAbs ≤ y.natAbs) : Sz k x := Nat.le_trans (lim_length_mono hx) h
end D

namespace M
def val : List Int → Int
  | [] => 0
  | x :: r => x + 1000000000 * val r

def Wf (l : List Int) : Prop := ∀ x ∈ l, 0 ≤ x ∧ x < 1000000000

theorem Wf.nil : Wf [] := fun _ h => by cases h

theorem Wf.cons {x : Int} {r : List Int} (h0 : 0 ≤ x) (h1 : x < 1000000000) (h : Wf r) : Wf (x :: r) := by
  intro y hy
  rcases List.mem_cons.1 hy with rfl | hy
  · exact ⟨h0, h1⟩
  · exact h y hy

theorem Wf.head {x : Int} {r : List Int} (h : Wf (x :: r)) : 0 ≤ x ∧ x < 1000000000 := h x (List.mem_cons_self ..)

theorem Wf.tail {x : Int} {r : List Int} (h : Wf (x :: r)) : Wf r := fun y hy => h y (List.mem_cons_of_mem _ hy)

theorem Wf.append {a b : List Int} (h : Wf a) (k : Wf b) : Wf (a ++ b) := fun x hx => (List.mem_append.1 hx).elim (h x) (k x)

theorem Wf.take {a : List Int} (h : Wf a) (n : Nat) : Wf (a.take n) := fun x hx => h x (List.mem_of_mem_take hx)

theorem Wf.getD {a : List Int} (h : Wf a) (i : Nat) : 0 ≤ a.getD i 0 ∧ a.getD i 0 < 1000000000 := by
  rw [List.getD_eq_getElem?_getD]
  cases hi : a[i]? with
  | none => simp
  | some x => exact h x (List.mem_of_getElem? hi)

theorem Wf.set {a : List Int} (h : Wf a) (i : Nat) {x : Int} (h0 : 0 ≤ x) (h1 : x < 1000000000) : Wf (a.set i x) := by
  intro y hy
  rcases List.mem_or_eq_of_mem_set hy with hy | rfl
  · exact h y hy
  · exact ⟨h0, h1⟩

theorem Wf.replicate (n : Nat) : Wf (List.replicate n 0) := by
  intro x hx
  rw [(List.mem_replicate.1 hx).2]
  decide

theorem val_nonneg : ∀ {l : List Int}, Wf l → 0 ≤ val l
  | [], _ => Int.le_refl 0
  | x :: r, h => by
    have h1 := val_nonneg h.tail
    have h2 := h.head
    simp only [val]
    omega

theorem val_append (a b : List Int) : val (a ++ b) = val a + 1000000000 ^ a.length * val b := by
  induction a with
  | nil => simp [val]
  | cons x r ih =>
    simp only [List.cons_append, val, ih, List.length_cons, Int.pow_succ]
    rw [Int.mul_add, Int.add_assoc]
    congr 2
    rw [Int.mul_comm (1000000000 ^ r.length) 1000000000, Int.mul_assoc]

theorem val_lt {l : List Int} (h : Wf l) : val l < 1000000000 ^ l.length := by
  induction l with
  | nil => simp [val]
  | cons x r ih =>
    have h1 := ih h.tail
    have h2 := h.head
    simp only [val, List.length_cons, Int.pow_succ]
    omega

theorem val_replicate (n : Nat) : val (List.replicate n 0) = 0 := by
  induction n with
  | zero => rfl
  | succ n ih => simp [List.replicate_succ, val, ih]

/-- The canonical list. -/
def lim (n : Nat) : List Int := if h : n = 0 then [] else ((n % 1000000000 : Nat) : Int) :: lim (n / 1000000000)
decreasing_by exact Nat.div_lt_self (Nat.pos_of_ne_zero h) (by decide)

theorem lim_zero : lim 0 = [] := by rw [lim]; simp

theorem lim_pos {n : Nat} (h : n ≠ 0) : lim n = ((n % 1000000000 : Nat) : Int) :: lim (n / 1000000000) := by rw [lim, dif_neg h]

theorem val_lim (n : Nat) : val (lim n) = n := by
  induction n using Nat.strongRecOn with
  | _ n ih =>
    by_cases h : n = 0
    · subst h; rw [lim_zero]; rfl
    · rw [lim_pos h, val, ih _ (Nat.div_lt_self (Nat.pos_of_ne_zero h) (by decide))]
      omega

theorem Wf_lim (n : Nat) : Wf (lim n) := by
  induction n using Nat.strongRecOn with
  | _ n ih =>
    by_cases h : n = 0
    · subst h; rw [lim_zero]; exact Wf.nil
    · rw [lim_pos h]
      exact Wf.cons (by omega) (by omega) (ih _ (Nat.div_lt_self (Nat.pos_of_ne_zero h) (by decide)))

/-- No zero at the end. -/
def Nm : List Int → Prop
  | [] => True
  | [x] => x ≠ 0
  | _ :: r => Nm r

theorem Nm.tail {x y : Int} {r : List Int} (h : Nm (x :: y :: r)) : Nm (y :: r) := h

theorem val_pos : ∀ {l : List Int}, Wf l → Nm l → l ≠ [] → 0 < val l
  | [], _, _, h => absurd rfl h
  | [x], hw, hn, _ => by
    have := hw.head
    have hn : x ≠ 0 := hn
    simp only [val]
    omega
  | x :: y :: r, hw, hn, _ => by
    have h1 := val_pos hw.tail hn.tail (by simp)
    have h2 := hw.head
    rw [val]
    omega

theorem lim_val : ∀ {l : List Int}, Wf l → Nm l → lim (val l).toNat = l
  | [], _, _ => lim_zero
  | x :: r, hw, hn => by
    have hp := val_pos hw hn (by simp)
    have h2 := hw.head
    have h3 := val_nonneg hw.tail
    rw [lim_pos (by omega)]
    have e1 : (((val (x :: r)).toNat % 1000000000 : Nat) : Int) = x := by
      simp only [val] at hp ⊢
      omega
    have e2 : (val (x :: r)).toNat / 1000000000 = (val r).toNat := by
      simp only [val] at hp ⊢
      omega
    rw [e1, e2]
    congr 1
    cases r with
    | nil => exact lim_zero
    | cons y r => exact lim_val hw.tail hn.tail

theorem Nm_lim (n : Nat) : Nm (lim n) := by
  induction n using Nat.strongRecOn with
  | _ n ih =>
    by_cases h : n = 0
    · subst h; rw [lim_zero]; trivial
    · rw [lim_pos h]
      have hlt := Nat.div_lt_self (Nat.pos_of_ne_zero h) (show 1 < 1000000000 by decide)
      by_cases h2 : n / 1000000000 = 0
      · rw [h2, lim_zero]
        show ((n % 1000000000 : Nat) : Int) ≠ 0
        omega
      · have := ih _ hlt
        rw [lim_pos h2] at this ⊢
        exact this

/-- The list without zeros at the end is the canonical one. -/
theorem take_lim {l : List Int} (hw : Wf l) {n : Nat} (hn : n ≤ l.length) (hz : ∀ i, n ≤ i → i < l.length → l.getD i 0 = 0) (hl : 0 < n → l.getD (n - 1) 0 ≠ 0) : l.take n = lim (val l).toNat := by
  have hz2 : ∀ (r : List Int), (∀ i, i < r.length → r.getD i 0 = 0) → val r = 0 := by
    intro r
    induction r with
    | nil => intro _; rfl
    | cons x r ih =>
      intro h
      have h0 := h 0 (by simp)
      have h1 := ih fun i hi => by have := h (i + 1) (by simpa using hi); simpa using this
      simp only [List.getD_cons_zero] at h0
      simp [val, h0, h1]
  have hv : val l = val (l.take n) := by
    conv => lhs; rw [← List.take_append_drop n l]
    rw [val_append, hz2 (l.drop n) fun i hi => ?_]
    · simp
    · have := hz (n + i) (by omega) (by simp at hi; omega)
      simpa [List.getD_eq_getElem?_getD] using this
  have hNm : ∀ (r : List Int), (r ≠ [] → r.getD (r.length - 1) 0 ≠ 0) → Nm r := by
    intro r
    induction r with
    | nil => intro _; trivial
    | cons x r ih =>
      intro h
      cases r with
      | nil =>
        have := h (by simp)
        show x ≠ 0
        simpa using this
      | cons y r =>
        show Nm (y :: r)
        refine ih fun _ => ?_
        have := h (by simp)
        simpa using this
  have hn2 : Nm (l.take n) := by
    refine hNm _ fun hne => ?_
    have hlen : (l.take n).length = n := by simp; omega
    have hnp : 0 < n := by
      rcases Nat.eq_zero_or_pos n with e | e
      · subst e; exact absurd (by simp) hne
      · exact e
    rw [hlen]
    have := hl hnp
    rw [List.getD_eq_getElem?_getD] at this ⊢
    rw [List.getElem?_take_of_lt (by omega)]
    exact this
  rw [hv]
  exact (lim_val (hw.take n) hn2).symm

theorem val_take_succ (a : List Int) (i : Nat) : val (a.take (i + 1)) = val (a.take i) + 1000000000 ^ i * a.getD i 0 := by
  rcases Nat.lt_or_ge i a.length with h | h
  · rw [List.take_succ_eq_append_getElem h, val_append, List.getD_eq_getElem?_getD, List.getElem?_eq_getElem h]
    simp [val, List.length_take, Nat.min_eq_left (Nat.le_of_lt h)]
  · rw [List.take_of_length_le (by omega), List.take_of_length_le h, getD_big h]
    simp

theorem val_set {r : List Int} {i : Nat} (h : i < r.length) (v : Int) : val (r.set i v) = val r + 1000000000 ^ i * (v - r.getD i 0) := by
  induction r generalizing i with
  | nil => simp at h
  | cons x r ih =>
    cases i with
    | zero => simp [val]; omega
    | succ i =>
      have := ih (i := i) (by simpa using h)
      simp only [List.set_cons_succ, val, this, List.getD_cons_succ, Int.pow_succ]
      grind

theorem powB (i : Nat) : (1000000000 : Int) ^ (i + 1) = 1000000000 ^ i * 1000000000 := Int.pow_succ ..

theorem powB_pos (i : Nat) : (0 : Int) < 1000000000 ^ i := Int.pow_pos (by decide)

theorem val_take_all {a : List Int} {i : Nat} (h : a.length ≤ i) : val (a.take i) = val a := by rw [List.take_of_length_le h]

/-- One limb of a sum. -/
theorem add_limb {P c x y s V : Int} (hs : s = c + x + y) : P * (s % 1000000000) + P * 1000000000 * (s / 1000000000) + V = V + P * c + P * x + P * y := by
  have h : s % 1000000000 + 1000000000 * (s / 1000000000) = s := by omega
  grind

/-- One limb of a product. -/
theorem mul_limb {P c x y r s V : Int} (hs : s = c + x * y + r) : V + P * (s % 1000000000 - r) + P * 1000000000 * (s / 1000000000) = V + P * c + P * (x * y) := by
  have h : s % 1000000000 + 1000000000 * (s / 1000000000) = s := by omega
  grind

theorem mul_bound {c x y r : Int} (hc : 0 ≤ c) (hc' : c < 1000000000) (hx : 0 ≤ x) (hx' : x < 1000000000) (hy : 0 ≤ y) (hy' : y < 1000000000) (hr : 0 ≤ r) (hr' : r < 1000000000) :
    0 ≤ x * y ∧ x * y ≤ 999999998000000001 ∧ 0 ≤ c + x * y + r ∧ c + x * y + r < 1000000000000000000 := by
  have h1 := Int.mul_le_mul (show x ≤ 999999999 by omega) (show y ≤ 999999999 by omega) hy (by decide)
  have h2 := Int.mul_nonneg hx hy
  have h3 : (999999999 : Int) * 999999999 = 999999998000000001 := by decide
  rw [h3] at h1
  omega

theorem tdivB {n : Int} (h : 0 ≤ n) : n.tdiv 1000000000 = n / 1000000000 := Int.tdiv_eq_ediv_of_nonneg h

theorem tmodB {n : Int} (h : 0 ≤ n) : n.tmod 1000000000 = n % 1000000000 := Int.tmod_eq_emod_of_nonneg h

theorem powB_mono {i j : Nat} (h : i ≤ j) : (1000000000 : Int) ^ i ≤ 1000000000 ^ j := by
  induction h with
  | refl => exact Int.le_refl _
  | step h ih =>
    rename_i m
    have := powB_pos m
    rw [powB]
    omega

/-- What the inner loop does: x times b is added from place i on. -/
structure InnerOK (b r : List Int) (i : Nat) (x : Int) (k : Nat) (c : Int) (r' : List Int) : Prop where
  len : r'.length = r.length
  wf : Wf r'
  c0 : 0 ≤ c
  c1 : c < 1000000000
  vl : val r' + 1000000000 ^ (i + k) * c = val r + 1000000000 ^ i * (x * val (b.take k))
  hi : ∀ j, i + k ≤ j → r'.getD j 0 = r.getD j 0

theorem InnerOK.zero {b r : List Int} {i : Nat} {x : Int} (hw : Wf r) : InnerOK b r i x 0 0 r :=
  ⟨rfl, hw, by omega, by omega, by simp [val], fun _ _ => rfl⟩

theorem InnerOK.step {b r : List Int} {i : Nat} {x : Int} {k : Nat} {c : Int} {r' : List Int} (h : InnerOK b r i x k c r') (wb : Wf b) (hx : 0 ≤ x) (hx1 : x < 1000000000) (hk : i + k < r.length) :
    InnerOK b r i x (k + 1) ((c + x * b.getD k 0 + r'.getD (i + k) 0) / 1000000000) (r'.set (i + k) ((c + x * b.getD k 0 + r'.getD (i + k) 0) % 1000000000)) := by
  have xb := wb.getD k
  have xr := h.wf.getD (i + k)
  have hb := mul_bound h.c0 h.c1 hx hx1 xb.1 xb.2 xr.1 xr.2
  have hl := h.len
  refine ⟨by simp [hl], h.wf.set _ (by omega) (by omega), by omega, by omega, ?_, fun j hj => ?_⟩
  · rw [val_set (by omega), val_take_succ, show i + (k + 1) = (i + k) + 1 by omega, powB]
    have e1 := mul_limb (P := 1000000000 ^ (i + k)) (V := val r') (c := c) (x := x) (y := b.getD k 0) (r := r'.getD (i + k) 0) (s := c + x * b.getD k 0 + r'.getD (i + k) 0) rfl
    have e2 : (1000000000 : Int) ^ (i + k) = 1000000000 ^ i * 1000000000 ^ k := Int.pow_add ..
    have e3 := h.vl
    grind
  · rw [getD_set, if_neg (by omega)]
    exact h.hi j (by omega)

/-- The outer loop: a's first i limbs times b. -/
structure OuterOK (a b : List Int) (i : Nat) (r : List Int) : Prop where
  len : r.length = a.length + b.length
  wf : Wf r
  vl : val r = val (a.take i) * val b
  hi : ∀ j, i + b.length ≤ j → r.getD j 0 = 0

theorem OuterOK.zero (a b : List Int) : OuterOK a b 0 (List.replicate (a.length + b.length) 0) :=
  ⟨by simp, Wf.replicate _, by simp [val, val_replicate], fun j _ => by
    rw [List.getD_eq_getElem?_getD, List.getElem?_replicate]
    split <;> rfl⟩

theorem OuterOK.step {a b : List Int} {i : Nat} {r r' : List Int} {c : Int} (h : OuterOK a b i r) (hI : InnerOK b r i (a.getD i 0) b.length c r') (hi : i < a.length) : OuterOK a b (i + 1) (r'.set (i + b.length) c) := by
  have hl := h.len
  have hl' := hI.len
  have h0 : r'.getD (i + b.length) 0 = 0 := by rw [hI.hi _ (Nat.le_refl _), h.hi _ (Nat.le_refl _)]
  refine ⟨by simp [hl', hl], hI.wf.set _ hI.c0 hI.c1, ?_, fun j hj => ?_⟩
  · rw [val_set (by omega), h0, val_take_succ]
    have e1 := hI.vl
    have e2 := h.vl
    rw [val_take_all (Nat.le_refl _)] at e1
    grind
  · rw [getD_set, if_neg (by omega), hI.hi _ (by omega), h.hi _ (by omega)]

theorem lim_eq_nil {n : Nat} : lim n = [] ↔ n = 0 := by
  constructor
  · intro h
    have := val_lim n
    rw [h] at this
    simp only [val] at this
    omega
  · rintro rfl
    exact lim_zero

theorem lim_inj {a b : Nat} (h : lim a = lim b) : a = b := by
  have h1 := val_lim a
  have h2 := val_lim b
  rw [h] at h1
  omega

theorem Nm.last : ∀ {l : List Int}, Nm l → 0 < l.length → l.getD (l.length - 1) 0 ≠ 0
  | [x], h, _ => h
  | x :: y :: r, h, _ => by
    have := Nm.last (l := y :: r) h (by simp)
    simpa using this

theorem castB (m : Nat) : ((1000000000 ^ m : Nat) : Int) = (1000000000 : Int) ^ m := Int.natCast_pow 1000000000 m

theorem lim_length_of {n k : Nat} (h : n < 1000000000 ^ k) : (lim n).length ≤ k := by
  by_cases h0 : n = 0
  · subst h0; rw [lim_zero]; simp
  · have hp : 0 < (lim n).length := by
      rcases Nat.eq_zero_or_pos (lim n).length with q | q
      · exact (h0 (lim_eq_nil.1 (List.eq_nil_of_length_eq_zero q))).elim
      · exact q
    obtain ⟨m, hm⟩ : ∃ m, (lim n).length = m + 1 := ⟨(lim n).length - 1, by omega⟩
    have h1 := (Nm_lim n).last hp
    have h2 := val_take_succ (lim n) m
    rw [← hm, List.take_length, val_lim] at h2
    have h3 := val_nonneg ((Wf_lim n).take m)
    have h4 := (Wf_lim n).getD m
    rw [hm, Nat.add_sub_cancel] at h1
    have h5 : (1000000000 : Int) ^ m ≤ n := by
      have h6 : (1000000000 : Int) ^ m * 1 ≤ 1000000000 ^ m * (lim n).getD m 0 := Int.mul_le_mul_of_nonneg_left (by omega) (Int.le_of_lt (powB_pos m))
      omega
    have h7 : 1000000000 ^ m ≤ n := by rw [← castB] at h5; exact Int.ofNat_le.1 h5
    have h8 : 1000000000 ^ m < 1000000000 ^ k := by omega
    have := (Nat.pow_lt_pow_iff_right (by decide : 1 < 1000000000)).1 h8
    omega

theorem lim_lt (n : Nat) : n < 1000000000 ^ (lim n).length := by
  have := val_lt (Wf_lim n)
  rw [val_lim, ← castB] at this
  exact Int.ofNat_lt.1 this

theorem lim_length_mono {a b : Nat} (h : a ≤ b) : (lim a).length ≤ (lim b).length := lim_length_of (Nat.lt_of_le_of_lt h (lim_lt b))

/-- An integer as the texts hold it. -/
def zl (z : Int) : Bool × List Int := (decide (z < 0), lim z.natAbs)

theorem val_split (l : List Int) (k : Nat) (h : k ≤ l.length) : val l = val (l.take k) + 1000000000 ^ k * val (l.drop k) := by
  have := val_append (l.take k) (l.drop k)
  rw [List.take_append_drop, List.length_take, Nat.min_eq_left h] at this
  exact this

theorem val_take_lt {l : List Int} (hw : Wf l) (k : Nat) (h : k ≤ l.length) : val (l.take k) < 1000000000 ^ k := by
  have := val_lt (hw.take k)
  rw [List.length_take, Nat.min_eq_left h] at this
  exact this

/-- Equal above a place, less there: less. -/
theorem lt_at {a b : List Int} (wa : Wf a) (wb : Wf b) {k : Nat} (ha : k < a.length) (hb : k < b.length) (he : a.drop (k + 1) = b.drop (k + 1)) (hlt : a.getD k 0 < b.getD k 0) : val a < val b := by
  rw [val_split a k (by omega), val_split b k (by omega), drop_at ha, drop_at hb, he]
  simp only [val]
  have h1 := val_take_lt wa k (by omega)
  have h2 := val_nonneg (wb.take k)
  have h3 := powB_pos k
  generalize (1000000000 : Int) ^ k = P at *
  generalize val (b.drop (k + 1)) = V at *
  generalize a.getD k 0 = A at *
  generalize b.getD k 0 = C at *
  have h4 : P * (A + 1000000000 * V) + P = P * (A + 1 + 1000000000 * V) := by grind
  have h5 : P * (A + 1 + 1000000000 * V) ≤ P * (C + 1000000000 * V) := Int.mul_le_mul_of_nonneg_left (by omega) (by omega)
  omega

theorem lim_shorter {a b : Nat} (h : (lim a).length < (lim b).length) : a < b := by
  rcases Nat.lt_or_ge a b with q | q
  · exact q
  · have := lim_length_mono q
    omega

theorem sub_limb {P c x y V : Int} (t : Int) (h : t = if x - y - c < 0 then 1 else 0) : V + P * ((x - y - c) % 1000000000) - P * 1000000000 * t = V + P * x - P * y - P * c ∨ ¬ (0 ≤ x ∧ x < 1000000000 ∧ 0 ≤ y ∧ y < 1000000000 ∧ 0 ≤ c ∧ c ≤ 1) := by
  by_cases q : 0 ≤ x ∧ x < 1000000000 ∧ 0 ≤ y ∧ y < 1000000000 ∧ 0 ≤ c ∧ c ≤ 1
  · left
    have h2 : (x - y - c) % 1000000000 = x - y - c + 1000000000 * t := by
      rw [h]
      split <;> omega
    rw [h2]
    grind
  · exact .inr q

/-- One round of a difference: what its invariant says. -/
structure SubOK (a b : List Int) (i : Nat) (r : List Int) (c : Int) : Prop where
  wf : Wf r
  c0 : 0 ≤ c
  c1 : c ≤ 1
  v : val (r.take i) - 1000000000 ^ i * c = val (a.take i) - val (b.take i)

theorem SubOK.step {a b r r' : List Int} {i : Nat} {c : Int} (h : SubOK a b i r c) (wa : Wf a) (wb : Wf b) (hr : r'.take i = r.take i) (hw : Wf r') (hd : r'.getD i 0 = (a.getD i 0 - b.getD i 0 - c) % 1000000000) : SubOK a b (i + 1) r' (bor (a.getD i 0 - b.getD i 0 - c)) := by
  refine ⟨hw, (bor_range _).1, (bor_range _).2, ?_⟩
  rw [val_take_succ, val_take_succ, val_take_succ, powB, hr, hd]
  have h1 := wa.getD i
  have h2 := wb.getD i
  have h3 := h.v
  have h4 := sub_limb (P := 1000000000 ^ i) (c := c) (x := a.getD i 0) (y := b.getD i 0) (V := val (r.take i)) (bor (a.getD i 0 - b.getD i 0 - c)) rfl
  rcases h4 with h4 | h4
  · grind
  · exact (h4 ⟨h1.1, h1.2, h2.1, h2.2, h.c0, h.c1⟩).elim

theorem SubOK.done {a b r : List Int} {c : Int} (h : SubOK a b a.length r c) (hr : r.length = a.length) (hb : b.length ≤ a.length) (hle : val b ≤ val a) : val r = val a - val b := by
  have h1 := h.v
  rw [val_take_all (by omega), val_take_all (Nat.le_refl _), val_take_all hb] at h1
  have h2 := val_lt h.wf
  rw [hr] at h2
  have h3 := h.c0
  have h4 := h.c1
  have h5 := powB_pos a.length
  generalize (1000000000 : Int) ^ a.length = P at *
  rcases (show c = 0 ∨ c = 1 by omega) with rfl | rfl
  · omega
  · omega

theorem sgn_natAbs (neg : Bool) (n : Nat) : (sgn neg n).natAbs = n := by
  unfold sgn
  cases neg <;> simp

theorem zl_sgn (neg : Bool) (n : Nat) : zl (sgn neg n) = (neg && decide (0 < (lim n).length), lim n) := by
  unfold zl
  rw [sgn_natAbs]
  congr 1
  unfold sgn
  cases neg
  · simp
  · simp only [if_true, Bool.true_and]
    rw [decide_eq_decide]
    constructor
    · intro h
      rcases Nat.eq_zero_or_pos (lim n).length with q | q
      · have := lim_eq_nil.1 (List.eq_nil_of_length_eq_zero q)
        omega
      · exact q
    · intro h
      have : n ≠ 0 := by
        rintro rfl
        rw [lim_zero] at h
        simp at h
      omega

theorem sgn_zl (z : Int) : sgn (decide (z < 0)) z.natAbs = z := by
  unfold sgn
  by_cases h : z < 0
  · rw [decide_eq_true h, if_pos rfl]; omega
  · rw [decide_eq_false h, if_neg (by decide)]; omega

/-- So long at most. -/
def Sz (k : Nat) (z : Int) : Prop := (lim z.natAbs).length ≤ k

theorem lim_add_length (a b : Nat) : (lim (a + b)).length ≤ max (lim a).length (lim b).length + 1 := by
  refine lim_length_of ?_
  have h1 := lim_lt a
  have h2 := lim_lt b
  have h3 : 1000000000 ^ (lim a).length ≤ 1000000000 ^ max (lim a).length (lim b).length := Nat.pow_le_pow_right (by decide) (Nat.le_max_left ..)
  have h4 : 1000000000 ^ (lim b).length ≤ 1000000000 ^ max (lim a).length (lim b).length := Nat.pow_le_pow_right (by decide) (Nat.le_max_right ..)
  rw [Nat.pow_succ]
  omega

theorem Sz.add {j k : Nat} {x y : Int} (hx : Sz j x) (hy : Sz k y) : Sz (max j k + 1) (x + y) := by
  have h1 := lim_add_length x.natAbs y.natAbs
  have h2 := lim_length_mono (Int.natAbs_add_le x y)
  unfold Sz at *
  omega

theorem lim_mul_length (a b : Nat) : (lim (a * b)).length ≤ (lim a).length + (lim b).length := by
  refine lim_length_of ?_
  rw [Nat.pow_add]
  have h1 := lim_lt a
  have h2 := lim_lt b
  by_cases hb : b = 0
  · subst hb
    rw [Nat.mul_zero]
    exact Nat.mul_pos (Nat.pow_pos (by decide)) (Nat.pow_pos (by decide))
  · exact Nat.mul_lt_mul_of_lt_of_le h1 (Nat.le_of_lt h2) (Nat.lt_of_le_of_lt (Nat.zero_le _) h2)

theorem Sz.mul {j k : Nat} {x y : Int} (hx : Sz j x) (hy : Sz k y) : Sz (j + k) (x * y) := by
  unfold Sz at *
  rw [Int.natAbs_mul]
  have := lim_mul_length x.natAbs y.natAbs
  omega

theorem Sz.neg {k : Nat} {x : Int} (hx : Sz k x) : Sz k (-x) := by
  unfold Sz at *
  rw [Int.natAbs_neg]
  exact hx

theorem Sz.mono {j k : Nat} {x : Int} (h : Sz j x) (hk : j ≤ k) : Sz k x := Nat.le_trans h hk

theorem Sz.le {k : Nat} {x y : Int} (h : Sz k y) (hx : x.natAbs ≤ y.natAbs) : Sz k x := Nat.le_trans (lim_length_mono hx) h
end M

end Go.Proofs.Rf
/- What the reference's functions on numbers come to: trimmed, sums, differences. -/
namespace Go.Proofs.Rf
open Go Go.RowKit

theorem trim_ind {A B : Type} {f : A → Option (A ⊕ B)} (st : Nat → A) (fin : Nat → B) (l : List Int) (h0 : f (st 0) = some (.inr (fin 0)))
    (hs : ∀ n, n < l.length → f (st (n + 1)) = if (l.getD n 0 == 0) = true then some (.inl (st n)) else some (.inr (fin (n + 1)))) :
    ∃ n : Nat, limL f (st l.length) = some (fin n) ∧ n ≤ l.length ∧ (∀ i, n ≤ i → i < l.length → l.getD i 0 = 0) ∧ (0 < n → l.getD (n - 1) 0 ≠ 0) := by
  have key : ∀ k, k ≤ l.length → (∀ i, k ≤ i → i < l.length → l.getD i 0 = 0) → ∃ n : Nat, limL f (st k) = some (fin n) ∧ n ≤ l.length ∧ (∀ i, n ≤ i → i < l.length → l.getD i 0 = 0) ∧ (0 < n → l.getD (n - 1) 0 ≠ 0) := by
    intro k
    induction k with
    | zero =>
      intro hk hz
      exact ⟨0, by rw [limL_eq, h0], hk, hz, fun h => absurd h (by omega)⟩
    | succ k ih =>
      intro hk hz
      rw [limL_eq, hs k (by omega)]
      by_cases hx : l.getD k 0 = 0
      · rw [if_pos (by rw [hx]; rfl)]
        refine ih (by omega) fun i h1 h2 => ?_
        rcases Nat.eq_or_lt_of_le h1 with q | q
        · rw [← q]; exact hx
        · exact hz i (by omega) h2
      · rw [if_neg (by simpa using hx)]
        exact ⟨k + 1, rfl, hk, hz, fun _ => hx⟩
  exact key l.length (Nat.le_refl _) fun i h1 h2 => absurd h2 (by omega)

open D

theorem L96_spec {neg : Bool} {l : List Int} (hw : Wf l) (hl : l.length < 4611686018427387904) : L96 ((neg, l), ()) = some ((zl (sgn neg (val l).toNat), ()), ()) := by
  obtain ⟨n, h1, h2, h3, h4⟩ := trim_ind (f := S96_2) (fun n => (((), (), (n : Int), ()), ((neg, l, ()), (false, [], ()), ()))) (fun n => (((), (), (n : Int), ()), ((neg, l, ()), (false, [], ()), ()))) l
    (by rw [S96_2_eq]; rfl) (by
      intro n hn
      have hn : n < l.length := hn
      have e : IntKind.i64.wrap (((n + 1 : Nat) : Int) - 1) = (n : Int) := (wi (n := ((n + 1 : Nat) : Int) - 1) (by omega) (by omega)).trans (by omega)
      rw [S96_2_eq, e, if_pos (decide_eq_true (by omega)), if_pos (by omega), if_pos (by omega), Int.toNat_natCast])
  show F96 Lg96_2 ((neg, l), ()) = _
  rw [F96_eq]
  show (limL S96_2 (((), (), (l.length : Int), ()), ((neg, l, ()), (false, [], ()), ()))).bind _ = _
  rw [h1]
  simp only [Option.bind_some, Int.toNat_natCast]
  refine (if_pos (show (0 : Int) ≤ (n : Int) by omega)).trans ?_
  refine (if_pos (show (n : Int) ≤ (l.length : Int) by omega)).trans ?_
  rw [zl_sgn]
  have ht := take_lim hw h2 h3 h4
  have hlen : (l.take n).length = n := by simp; omega
  rw [← ht, hlen]
  by_cases h0 : n = 0
  · subst h0
    rw [if_pos (by rfl)]
    simp
  · rw [if_neg (by simpa using h0), decide_eq_true (by omega), Bool.and_true]

theorem L112_spec {a : List Int} (i : Nat) : L112 (a, (i : Int), ()) = some ((a.getD i 0, ()), ()) := by
  show F112 (a, (i : Int), ()) = _
  rw [F112_eq]
  simp only [decide_eq_true_eq, Int.ofNat_lt, Int.toNat_natCast]
  by_cases h : i < a.length
  · simp only [h, if_true, show (0 : Int) ≤ (i : Int) by omega]
  · simp only [h, if_false, getD_big (show a.length ≤ i by omega)]

/-! ### Sums -/
theorem S109_step {a b r : List Int} {c : Int} {i : Nat} (wa : Wf a) (wb : Wf b) (hc : 0 ≤ c) (hc1 : c ≤ 1) (hr : r.length = i) (hi : i < a.length ∨ i < b.length ∨ c > 0) (hb : i < 2000000000) :
    S109_4 L112 ((a, b, (), c, (i : Int), ()), (r, ())) = some (.inl ((a, b, (), (c + a.getD i 0 + b.getD i 0) / 10, ((i + 1 : Nat) : Int), ()), (r ++ [(c + a.getD i 0 + b.getD i 0) % 10], ()))) := by
  have xa := wa.getD i
  have xb := wb.getD i
  rw [S109_4_eq]
  have qa : L112 (a, (i : Int), ()) = _ := L112_spec i
  have qb : L112 (b, (i : Int), ()) = _ := L112_spec i
  rw [qa, qb]
  simp only [Option.bind_some]
  generalize a.getD i 0 = A at *
  generalize b.getD i 0 = B at *
  have e1 : IntKind.i64.wrap (A + B) = A + B := wi (by omega) (by omega)
  have e2 : IntKind.i64.wrap (A + B + c) = c + A + B := by rw [wi (by omega) (by omega)]; omega
  have e6 : IntKind.i64.wrap ((i : Int) + 1) = ((i + 1 : Nat) : Int) := by rw [wi (by omega) (by omega)]; omega
  have t1 := tdivB (n := c + A + B) (by omega)
  have u1 := tmodB (n := c + A + B) (by omega)
  have e7 : IntKind.i64.wrap ((c + A + B) / 10) = (c + A + B) / 10 := wi (by omega) (by omega)
  have hlen : ∀ x : Int, r.length + [x].length ≤ 4294967296 := fun x => by simp; omega
  simp only [e1, e2, e6, t1, u1, e7, hlen, if_true, decide_eq_true_eq, Int.ofNat_lt]
  by_cases h1 : i < a.length
  · rw [if_pos h1]
  · rw [if_neg h1]
    by_cases h2 : i < b.length
    · rw [if_pos h2]
    · rw [if_neg h2, if_pos (by omega)]

theorem L109_spec {a b : List Int} (wa : Wf a) (wb : Wf b) (sa : a.length < 1000000000) (sb : b.length < 1000000000) :
    ∃ r, L109 (a, b, ()) = some ((r, ()), ()) ∧ Wf r ∧ val r = val a + val b ∧ r.length ≤ max a.length b.length + 1 := by
  obtain ⟨z, h1, r, rfl, hw, hv, hlen⟩ := limL_ind (f := S109_4 L112) (fun x => max a.length b.length + 1 - x.1.2.2.2.2.1.toNat)
    (fun x => ∃ (c : Int) (i : Nat) (r : List Int), x = ((a, b, (), c, (i : Int), ()), (r, ())) ∧ r.length = i ∧ Wf r ∧ 0 ≤ c ∧ c ≤ 1 ∧ i ≤ max a.length b.length + 1 ∧ (i = max a.length b.length + 1 → c = 0) ∧ val r + 10 ^ i * c = val (a.take i) + val (b.take i))
    (fun z => ∃ (r : List Int), z = (((), ()), (r, ())) ∧ Wf r ∧ val r = val a + val b ∧ r.length ≤ max a.length b.length + 1) (by
    rintro x ⟨c, i, r, rfl, hr, hw, hc, hc1, hi, hci, hv⟩
    by_cases hd : i < a.length ∨ i < b.length ∨ c > 0
    · left
      have xa := wa.getD i
      have xb := wb.getD i
      have hil : i ≤ max a.length b.length := by
        rcases hd with q | q | q
        · omega
        · omega
        · have : i ≠ max a.length b.length + 1 := fun e => by have := hci e; omega
          omega
      refine ⟨_, S109_step wa wb hc hc1 hr hd (by omega), ⟨_, i + 1, _, rfl, by simp [hr], ?_, by omega, by omega, by omega, ?_, ?_⟩, ?_⟩
      · exact hw.append (Wf.cons (by omega) (by omega) Wf.nil)
      · intro e
        have ga : a.getD i 0 = 0 := getD_big (by omega)
        have gb : b.getD i 0 = 0 := getD_big (by omega)
        rw [ga, gb]
        omega
      · rw [val_append, hr, val_take_succ, val_take_succ, powB]
        have := add_limb (P := 10 ^ i) (V := val r) (s := c + a.getD i 0 + b.getD i 0) rfl
        simp only [val]
        grind
      · simp only [Int.toNat_natCast]; omega
    · right
      have q1 : ¬ i < a.length := fun q => hd (.inl q)
      have q2 : ¬ i < b.length := fun q => hd (.inr (.inl q))
      have q3 : ¬ c > 0 := fun q => hd (.inr (.inr q))
      have hc0 : c = 0 := by omega
      refine ⟨(((), ()), (r, ())), ?_, r, rfl, hw, ?_, by omega⟩
      · rw [S109_4_eq]
        simp only [decide_eq_true_eq, Int.ofNat_lt, q1, q2, q3, if_false]
      · rw [hc0, Int.mul_zero, Int.add_zero] at hv
        rw [hv, val_take_all (by omega), val_take_all (by omega)]) ((a, b, (), 0, ((0 : Nat) : Int), ()), ([], ())) ⟨0, 0, [], rfl, rfl, Wf.nil, by omega, by omega, by omega, fun _ => rfl, by simp [val]⟩
  refine ⟨r, ?_, hw, hv, hlen⟩
  show F109 Lg109_4 (a, b, ()) = _
  rw [F109_eq]
  show (limL (S109_4 L112) _).bind _ = _
  rw [show limL (S109_4 L112) ((a, b, (), 0, 0, ()), [], ()) = _ from h1]
  rfl

/-! ### Comparing -/
theorem val_above {a b : List Int} {k : Nat} (h : ∀ j, k ≤ j → a.getD j 0 = b.getD j 0) : ∀ m, k ≤ m → val (b.take m) - val (a.take m) = val (b.take k) - val (a.take k) := by
  intro m hm
  induction hm with
  | refl => rfl
  | @step m hm ih =>
    have hm : k ≤ m := hm
    rw [Nat.succ_eq_add_one, val_take_succ, val_take_succ, h m hm]
    omega

theorem val_lt_pow_take {a : List Int} (wa : Wf a) (k : Nat) : val (a.take k) < 10 ^ k := by
  have h1 := val_lt (wa.take k)
  have h2 := powB_mono (i := (a.take k).length) (j := k) (by simp; omega)
  omega

theorem lt_above {a b : List Int} (wa : Wf a) (wb : Wf b) {k : Nat} (h : ∀ j, k + 1 ≤ j → a.getD j 0 = b.getD j 0) (hk : a.getD k 0 < b.getD k 0) : val a < val b := by
  have h1 := val_above h (max (max a.length b.length) (k + 1)) (by omega)
  rw [val_take_all (a := a) (by omega), val_take_all (a := b) (by omega), val_take_succ, val_take_succ] at h1
  have h2 := val_lt_pow_take wa k
  have h3 := val_nonneg (wb.take k)
  have h4 : (10 : Int) ^ k * (a.getD k 0 + 1) ≤ 10 ^ k * b.getD k 0 := Int.mul_le_mul_of_nonneg_left (by omega) (Int.le_of_lt (powB_pos k))
  rw [Int.mul_add, Int.mul_one] at h4
  omega

/-- The sign of a difference of integers. -/
def sgi (a b : Int) : Int := if a < b then -1 else if a = b then 0 else 1

theorem L110_spec {a b : List Int} (wa : Wf a) (wb : Wf b) (sa : a.length < 1000000000) (sb : b.length < 1000000000) : L110 (a, b, ()) = some ((sgi (val a) (val b), ()), ()) := by
  obtain ⟨z, h1, hz⟩ := limL_ind (f := S110_2 L112) (fun x => (x.1.2.2.1 + 1).toNat)
    (fun x => ∃ k : Nat, x = ((a, b, (k : Int) - 1, ()), ()) ∧ k ≤ max a.length b.length ∧ ∀ j, k ≤ j → a.getD j 0 = b.getD j 0)
    (fun z => (z = .inl ((-1, ()), ()) ∧ val a < val b) ∨ (z = .inl ((1, ()), ()) ∧ val b < val a) ∨ (z = .inr ((), ()) ∧ val a = val b)) (by
    rintro x ⟨k, rfl, hk, he⟩
    rcases Nat.eq_zero_or_pos k with rfl | hp
    · right
      refine ⟨_, by rw [S110_2_eq]; exact if_neg (by simp), .inr (.inr ⟨rfl, ?_⟩)⟩
      have h := val_above he (max a.length b.length) (by omega)
      rw [val_take_all (a := a) (by omega), val_take_all (a := b) (by omega)] at h
      simp [val] at h
      omega
    · obtain ⟨k, rfl⟩ : ∃ k', k = k' + 1 := ⟨k - 1, by omega⟩
      have e1 : ((k + 1 : Nat) : Int) - 1 = (k : Int) := by omega
      have p1 : (k : Int) ≥ 0 := by omega
      have e2 : IntKind.i64.wrap ((k : Int) - 1) = (k : Int) - 1 := wi (by omega) (by omega)
      have qa : L112 (a, (k : Int), ()) = _ := L112_spec k
      have qb : L112 (b, (k : Int), ()) = _ := L112_spec k
      rw [e1, S110_2_eq, if_pos (decide_eq_true p1), qa, qb]
      simp only [Option.bind_some, e2]
      by_cases h2 : a.getD k 0 = b.getD k 0
      · rw [if_neg (by rw [h2]; simp)]
        refine .inl ⟨_, rfl, ⟨k, rfl, by omega, fun j hj => ?_⟩, by simp only; omega⟩
        rcases Nat.eq_or_lt_of_le hj with q | q
        · rw [← q]; exact h2
        · exact he j q
      · rw [if_pos (by simpa using h2)]
        by_cases h3 : a.getD k 0 < b.getD k 0
        · rw [if_pos (decide_eq_true h3)]
          exact .inr ⟨_, rfl, .inl ⟨rfl, lt_above wa wb he h3⟩⟩
        · rw [if_neg (by simpa using h3)]
          exact .inr ⟨_, rfl, .inr (.inl ⟨rfl, lt_above wb wa (fun j hj => (he j hj).symm) (by omega)⟩)⟩) ((a, b, ((max a.length b.length : Nat) : Int) - 1, ()), ()) ⟨_, rfl, Nat.le_refl _, fun j hj => by rw [getD_big (by omega), getD_big (by omega)]⟩
  show F110 Lg110_2 (a, b, ()) = _
  have em : IntKind.i64.wrap (imax (a.length : Int) (b.length : Int) - 1) = ((max a.length b.length : Nat) : Int) - 1 := by
    have : imax (a.length : Int) (b.length : Int) = ((max a.length b.length : Nat) : Int) := by
      unfold imax
      split <;> omega
    rw [this, wi (by omega) (by omega)]
  rw [F110_eq, em]
  show (limL (S110_2 L112) _).bind _ = _
  rw [h1]
  unfold sgi
  rcases hz with ⟨rfl, h⟩ | ⟨rfl, h⟩ | ⟨rfl, h⟩
  · rw [if_pos h]; rfl
  · rw [if_neg (by omega), if_neg (by omega)]; rfl
  · rw [if_neg (by omega), if_pos h]; rfl

/-! ### Differences -/
theorem S111_step {a b r : List Int} {c : Int} {i : Nat} (wa : Wf a) (wb : Wf b) (hc : 0 ≤ c) (hc1 : c ≤ 1) (hr : r.length = i) (hi : i < a.length) (hs : a.length < 1000000000) :
    S111_4 L112 ((a, b, (), c, (i : Int), ()), (r, ())) = some (.inl ((a, b, (), bor (a.getD i 0 - b.getD i 0 - c), ((i + 1 : Nat) : Int), ()), (r ++ [(a.getD i 0 - b.getD i 0 - c) % 10], ()))) := by
  have xa := wa.getD i
  have xb := wb.getD i
  have qa : L112 (a, (i : Int), ()) = _ := L112_spec i
  have qb : L112 (b, (i : Int), ()) = _ := L112_spec i
  rw [S111_4_eq, qa, qb]
  simp only [Option.bind_some, decide_eq_true_eq, Int.ofNat_lt, hi, if_true]
  generalize a.getD i 0 = A at *
  generalize b.getD i 0 = B at *
  have e1 : IntKind.i64.wrap (A - B) = A - B := wi (by omega) (by omega)
  have e2 : IntKind.i64.wrap (A - B - c) = A - B - c := wi (by omega) (by omega)
  have e3 : IntKind.i64.wrap (A - B - c + 10) = A - B - c + 10 := wi (by omega) (by omega)
  have e6 : IntKind.i64.wrap ((i : Int) + 1) = ((i + 1 : Nat) : Int) := by rw [wi (by omega) (by omega)]; omega
  have hlen : ∀ x : Int, r.length + [x].length ≤ 4294967296 := fun x => by simp; omega
  simp only [e1, e2, e3, e6, hlen, if_true]
  unfold bor
  by_cases h3 : A - B - c < 0
  · rw [if_pos h3, if_pos h3, show (A - B - c) % 10 = A - B - c + 10 by omega]
  · rw [if_neg h3, if_neg h3, show (A - B - c) % 10 = A - B - c by omega]

theorem L111_spec {a b : List Int} (wa : Wf a) (wb : Wf b) (hl : b.length ≤ a.length) (hle : val b ≤ val a) (hs : a.length < 1000000000) :
    ∃ r, L111 (a, b, ()) = some ((r, ()), ()) ∧ Wf r ∧ val r = val a - val b ∧ r.length = a.length := by
  obtain ⟨z, h1, r, rfl, c, hr, hok⟩ := limL_ind (f := S111_4 L112) (fun x => a.length - x.1.2.2.2.2.1.toNat)
    (fun x => ∃ (c : Int) (i : Nat) (r : List Int), x = ((a, b, (), c, (i : Int), ()), (r, ())) ∧ r.length = i ∧ i ≤ a.length ∧ SubOK a b i r c)
    (fun z => ∃ r, z = (((), ()), (r, ())) ∧ ∃ c, r.length = a.length ∧ SubOK a b a.length r c) (by
    rintro x ⟨c, i, r, rfl, hr, hi, hok⟩
    by_cases hd : i < a.length
    · left
      have hz := Int.emod_nonneg (a.getD i 0 - b.getD i 0 - c) (show (10 : Int) ≠ 0 by decide)
      have hz' := Int.emod_lt_of_pos (a.getD i 0 - b.getD i 0 - c) (show (0 : Int) < 10 by decide)
      refine ⟨_, S111_step wa wb hok.c0 hok.c1 hr hd hs, ⟨_, i + 1, _, rfl, by simp [hr], by omega, hok.step wa wb ?_ (hok.wf.append (Wf.cons hz hz' Wf.nil)) ?_⟩, by simp only [Int.toNat_natCast]; omega⟩
      · rw [List.take_append_of_le_length (by omega)]
      · rw [List.getD_eq_getElem?_getD, List.getElem?_append_right (by omega), hr, Nat.sub_self]
        rfl
    · right
      obtain rfl : i = a.length := by omega
      refine ⟨_, ?_, r, rfl, c, hr, hok⟩
      rw [S111_4_eq, if_neg (by simp)]) ((a, b, (), 0, 0, ()), ([], ())) ⟨0, 0, _, rfl, rfl, by omega, Wf.nil, by omega, by omega, by simp [val]⟩
  refine ⟨r, ?_, hok.wf, hok.done hr hl hle, hr⟩
  show F111 Lg111_4 (a, b, ()) = _
  rw [F111_eq]
  show (limL (S111_4 L112) _).bind _ = _
  rw [h1]
  rfl

/-! ### Signed sums -/
theorem toNat_val_lim (n : Nat) : (val (lim n)).toNat = n := by rw [val_lim, Int.toNat_natCast]

theorem L68_spec {x y : Int} (hx : Sz 1000000 x) (hy : Sz 1000000 y) : L68 (zl x, zl y, ()) = some ((zl (x + y), ()), ()) := by
  unfold Sz at hx hy
  show F68 L96 L109 L110 L111 ((decide (x < 0), lim x.natAbs), (decide (y < 0), lim y.natAbs), ()) = _
  rw [F68_eq]
  by_cases hs : decide (x < 0) = decide (y < 0)
  · have hs' := decide_eq_decide.1 hs
    rw [if_pos (by rw [hs]; simp)]
    obtain ⟨r, h1, hw, hv, hl⟩ := L109_spec (Wf_lim x.natAbs) (Wf_lim y.natAbs) (by omega) (by omega)
    rw [h1]
    simp only [Option.bind_some]
    rw [L96_spec hw (by omega), hv, val_lim, val_lim]
    simp only [Option.bind_some]
    have e2 : sgn (decide (x < 0)) ((x.natAbs : Int) + (y.natAbs : Int)).toNat = x + y := by
      unfold sgn
      by_cases h : x < 0
      · rw [decide_eq_true h, if_pos rfl]; omega
      · rw [decide_eq_false h, if_neg (by decide)]; omega
    rw [e2]
  · have hs' : ¬ (x < 0 ↔ y < 0) := fun q => hs (decide_eq_decide.2 q)
    rw [if_neg (by simpa using hs), L110_spec (Wf_lim _) (Wf_lim _) (by omega) (by omega), val_lim, val_lim]
    simp only [Option.bind_some]
    by_cases hlt : x.natAbs < y.natAbs
    · have p : sgi (x.natAbs : Int) (y.natAbs : Int) = -1 := if_pos (by omega)
      rw [p, if_neg (by decide)]
      obtain ⟨r, h1, hw, hv, hl⟩ := L111_spec (Wf_lim y.natAbs) (Wf_lim x.natAbs) (lim_length_mono (by omega)) (by rw [val_lim, val_lim]; omega) (by omega)
      rw [h1]
      simp only [Option.bind_some]
      rw [L96_spec hw (by omega), hv, val_lim, val_lim]
      simp only [Option.bind_some]
      have e2 : sgn (decide (y < 0)) ((y.natAbs : Int) - (x.natAbs : Int)).toNat = x + y := by
        unfold sgn
        by_cases h : y < 0
        · rw [decide_eq_true h, if_pos rfl]; omega
        · rw [decide_eq_false h, if_neg (by decide)]; omega
      rw [e2]
    · have p : sgi (x.natAbs : Int) (y.natAbs : Int) ≥ 0 := by unfold sgi; rw [if_neg (by omega)]; split <;> omega
      rw [if_pos (decide_eq_true p)]
      obtain ⟨r, h1, hw, hv, hl⟩ := L111_spec (Wf_lim x.natAbs) (Wf_lim y.natAbs) (lim_length_mono (by omega)) (by rw [val_lim, val_lim]; omega) (by omega)
      rw [h1]
      simp only [Option.bind_some]
      rw [L96_spec hw (by omega), hv, val_lim, val_lim]
      simp only [Option.bind_some]
      have e2 : sgn (decide (x < 0)) ((x.natAbs : Int) - (y.natAbs : Int)).toNat = x + y := by
        unfold sgn
        by_cases h : x < 0
        · rw [decide_eq_true h, if_pos rfl]; omega
        · rw [decide_eq_false h, if_neg (by decide)]; omega
      rw [e2]

theorem L93_spec {x : Int} (hx : Sz 1000000 x) : L93 (zl x, ()) = some ((zl (-x), ()), ()) := by
  unfold Sz at hx
  show F93 L96 ((decide (x < 0), lim x.natAbs), ()) = _
  rw [F93_eq, L96_spec (Wf_lim _) (by omega), toNat_val_lim]
  have e2 : sgn (!decide (x < 0)) x.natAbs = -x := by
    unfold sgn
    by_cases h : x < 0
    · rw [decide_eq_true h, if_neg (by decide)]; omega
    · rw [decide_eq_false h, if_pos (by decide)]; omega
  rw [e2]
  rfl

theorem L82_spec {x y : Int} (hx : Sz 1000000 x) (hy : Sz 1000000 y) : L82 (zl x, zl y, ()) = some ((zl (x - y), ()), ()) := by
  show F82 L68 L93 ((decide (x < 0), lim x.natAbs), (decide (y < 0), lim y.natAbs), ()) = _
  rw [F82_eq]
  have h1 : L93 ((decide (y < 0), lim y.natAbs), ()) = some ((zl (-y), ()), ()) := L93_spec hy
  rw [h1]
  have h2 : L68 ((decide (x < 0), lim x.natAbs), zl (-y), ()) = some ((zl (x + -y), ()), ()) := L68_spec hx hy.neg
  simp only [Option.bind_some]
  rw [show ((zl (-y)).1, (zl (-y)).2) = zl (-y) from rfl, h2, ← Int.sub_eq_add_neg]
  rfl
end Go.Proofs.Rf
/- Decimal strings; the reference's Read, Write, Text and Small. -/
namespace Go.Proofs.Rf
open Go Go.RowKit D

abbrev dec := Lib.decDigits

/-- All are digits. -/
def IsD (s : List UInt8) : Prop := ∀ c ∈ s, 48 ≤ c.toNat ∧ c.toNat ≤ 57

/-- The value of digits. -/
def dv : List UInt8 → Nat
  | [] => 0
  | c :: s => (c.toNat - 48) * 10 ^ s.length + dv s

theorem dv_append (s t : List UInt8) : dv (s ++ t) = dv s * 10 ^ t.length + dv t := by
  induction s with
  | nil => simp [dv]
  | cons c s ih =>
    simp only [List.cons_append, dv, List.length_append, ih, Nat.pow_add]
    grind

theorem dv_snoc (s : List UInt8) (c : UInt8) : dv (s ++ [c]) = 10 * dv s + (c.toNat - 48) := by
  rw [dv_append]
  simp [dv]
  omega

theorem IsD.nil : IsD [] := fun _ h => by cases h
theorem IsD.append {s t : List UInt8} (h : IsD s) (k : IsD t) : IsD (s ++ t) := fun c hc => (List.mem_append.1 hc).elim (h c) (k c)
theorem IsD.left {s t : List UInt8} (h : IsD (s ++ t)) : IsD s := fun c hc => h c (List.mem_append_left _ hc)
theorem IsD.right {s t : List UInt8} (h : IsD (s ++ t)) : IsD t := fun c hc => h c (List.mem_append_right _ hc)
theorem IsD.one {d : Nat} (h : d < 10) : IsD [UInt8.ofNat (48 + d)] := by
  intro c hc
  rw [List.mem_singleton.1 hc, UInt8.toNat_ofNat']
  omega
theorem IsD.take {s : List UInt8} (h : IsD s) (n : Nat) : IsD (s.take n) := fun c hc => h c (List.mem_of_mem_take hc)
theorem IsD.drop {s : List UInt8} (h : IsD s) (n : Nat) : IsD (s.drop n) := fun c hc => h c (List.mem_of_mem_drop hc)
theorem IsD.getD {s : List UInt8} (h : IsD s) {i : Nat} (hi : i < s.length) : 48 ≤ (s.getD i 0).toNat ∧ (s.getD i 0).toNat ≤ 57 := by
  rw [List.getD_eq_getElem?_getD, List.getElem?_eq_getElem hi]
  exact h _ (List.getElem_mem hi)

theorem ofNat_d {d : Nat} (h : d < 10) : (UInt8.ofNat (48 + d)).toNat - 48 = d := by
  rw [UInt8.toNat_ofNat']
  omega

theorem u8_of {c : UInt8} (h : 48 ≤ c.toNat) : UInt8.ofNat (48 + (c.toNat - 48)) = c := by
  rw [show 48 + (c.toNat - 48) = c.toNat by omega]
  exact UInt8.ofNat_toNat

theorem dec_small {n : Nat} (h : n < 10) : dec n = [UInt8.ofNat (48 + n)] := by rw [dec, Lib.decDigits, dif_pos h]
theorem dec_big {n : Nat} (h : ¬ n < 10) : dec n = dec (n / 10) ++ [UInt8.ofNat (48 + n % 10)] := by rw [dec, Lib.decDigits, dif_neg h]

theorem dec_IsD (n : Nat) : IsD (dec n) := by
  induction n using Nat.strongRecOn with
  | _ n ih =>
    by_cases h : n < 10
    · rw [dec_small h]; exact IsD.one h
    · rw [dec_big h]
      exact (ih _ (by omega)).append (IsD.one (by omega))

theorem dv_dec (n : Nat) : dv (dec n) = n := by
  induction n using Nat.strongRecOn with
  | _ n ih =>
    by_cases h : n < 10
    · rw [dec_small h]
      simp only [dv, List.length_nil, ofNat_d h]
      omega
    · rw [dec_big h, dv_snoc, ih _ (by omega), ofNat_d (by omega)]
      omega

theorem dec_ne (n : Nat) : dec n ≠ [] := by
  by_cases h : n < 10
  · rw [dec_small h]; simp
  · rw [dec_big h]; simp

/-- No zero ahead, but for zero. -/
def NoZ (s : List UInt8) : Prop := s ≠ [] ∧ (s = [48] ∨ s.head? ≠ some 48)

theorem head_append {s t : List UInt8} (h : s ≠ []) : (s ++ t).head? = s.head? := by
  cases s with
  | nil => exact absurd rfl h
  | cons c s => rfl

theorem dec_NoZ (n : Nat) : NoZ (dec n) ∧ (n ≠ 0 → (dec n).head? ≠ some 48) := by
  induction n using Nat.strongRecOn with
  | _ n ih =>
    by_cases h : n < 10
    · rw [dec_small h]
      by_cases h0 : n = 0
      · subst h0
        exact ⟨⟨by simp, .inl rfl⟩, fun q => absurd rfl q⟩
      · have q : [UInt8.ofNat (48 + n)].head? ≠ some 48 := by
          intro e
          have e : UInt8.ofNat (48 + n) = 48 := by simpa using e
          have e := congrArg UInt8.toNat e
          rw [UInt8.toNat_ofNat'] at e
          simp at e
          omega
        exact ⟨⟨by simp, .inr q⟩, fun _ => q⟩
    · have h1 := (ih (n / 10) (by omega)).2 (by omega)
      rw [dec_big h]
      have h2 : (dec (n / 10) ++ [UInt8.ofNat (48 + n % 10)]).head? ≠ some 48 := by
        rw [head_append (dec_ne _)]; exact h1
      exact ⟨⟨by simp, .inr h2⟩, fun _ => h2⟩

theorem dv_pos {s : List UInt8} (hd : IsD s) (hn : s ≠ []) (hz : s.head? ≠ some 48) : 10 ^ (s.length - 1) ≤ dv s := by
  cases s with
  | nil => exact absurd rfl hn
  | cons c s =>
    have h1 := hd c (List.mem_cons_self ..)
    have h2 : c.toNat ≠ 48 := fun e => hz (by simp; exact UInt8.toNat_inj.1 e)
    simp only [dv, List.length_cons, Nat.add_sub_cancel]
    have : 1 * 10 ^ s.length ≤ (c.toNat - 48) * 10 ^ s.length := Nat.mul_le_mul_right _ (by omega)
    omega

theorem dv_lt {s : List UInt8} (hd : IsD s) : dv s < 10 ^ s.length := by
  induction s with
  | nil => simp [dv]
  | cons c s ih =>
    have h1 := hd c (List.mem_cons_self ..)
    have h2 := ih fun x hx => hd x (List.mem_cons_of_mem _ hx)
    simp only [dv, List.length_cons, Nat.pow_succ]
    have : (c.toNat - 48) * 10 ^ s.length ≤ 9 * 10 ^ s.length := Nat.mul_le_mul_right _ (by omega)
    omega

/-- A numeral without zeros ahead is the numeral of its value. -/
theorem dec_dv : ∀ {s : List UInt8}, IsD s → NoZ s → dec (dv s) = s := by
  have key : ∀ (n : Nat) (s : List UInt8), s.length = n → IsD s → NoZ s → dec (dv s) = s := by
    intro n
    induction n with
    | zero => intro s hl _ hn; exact absurd (List.eq_nil_of_length_eq_zero hl) hn.1
    | succ n ih =>
      intro s hl hd hn
      obtain ⟨t, c, rfl⟩ : ∃ t c, s = t ++ [c] := ⟨s.dropLast, s.getLast hn.1, (List.dropLast_concat_getLast hn.1).symm⟩
      have hc := hd c (by simp)
      rw [dv_snoc]
      by_cases ht : t = []
      · subst ht
        simp only [dv, Nat.mul_zero, Nat.zero_add, List.nil_append]
        rw [dec_small (by omega), u8_of hc.1]
      · have htz : t.head? ≠ some 48 := by
          rcases hn.2 with q | q
          · have := congrArg List.length q
            simp at this
            exact absurd this ht
          · rw [head_append ht] at q; exact q
        have hp := dv_pos hd.left ht htz
        have hp1 : 0 < dv t := Nat.lt_of_lt_of_le (Nat.pow_pos (by decide)) hp
        rw [dec_big (by omega), show (10 * dv t + (c.toNat - 48)) / 10 = dv t by omega, show (10 * dv t + (c.toNat - 48)) % 10 = c.toNat - 48 by omega, u8_of hc.1, ih t (by simpa using hl) hd.left ⟨ht, .inr htz⟩]
  exact fun {s} hd hn => key _ s rfl hd hn

theorem dec_length_le {n k : Nat} (h : n < 10 ^ k) (hk : 0 < k) : (dec n).length ≤ k := by
  by_cases h0 : n = 0
  · subst h0
    rw [dec_small (by omega)]
    exact hk
  · have h1 := dv_pos (dec_IsD n) (dec_ne n) ((dec_NoZ n).2 h0)
    rw [dv_dec] at h1
    rcases Nat.lt_or_ge k (dec n).length with q | q
    · have := Nat.pow_le_pow_right (n := 10) (by decide) (show k ≤ (dec n).length - 1 by omega)
      omega
    · exact q

/-- The digits, the least ahead. -/
theorem dec_lim : ∀ {n : Nat}, n ≠ 0 → dec n = (lim n).reverse.map fun d => UInt8.ofNat (48 + d.toNat) := by
  intro n
  induction n using Nat.strongRecOn with
  | _ n ih =>
    intro h0
    rw [lim_pos h0]
    by_cases h : n < 10
    · rw [dec_small h, show n / 10 = 0 by omega, lim_zero]
      simp
      congr 2
      omega
    · rw [dec_big h, ih (n / 10) (by omega) (by omega)]
      simp
      congr 1

/-- The string of a number. -/
def str (z : Int) : List UInt8 := if z < 0 then 45 :: dec z.natAbs else dec z.natAbs

/-- The number of a string. -/
def sv (s : List UInt8) : Int := if s.head? = some 45 then -(dv (s.drop 1) : Int) else dv s

theorem dec_head45 (n : Nat) : (dec n).head? ≠ some 45 := by
  intro e
  have h := dec_IsD n
  cases hd : dec n with
  | nil => rw [hd] at e; simp at e
  | cons c t =>
    rw [hd] at e h
    have e : c = 45 := by simpa using e
    have := h c (List.mem_cons_self ..)
    rw [e] at this
    exact absurd this.1 (by decide)

/-! ### Write -/
theorem u8w {d : Int} (h0 : 0 ≤ d) (h1 : d < 10) : IntKind.u8.wrap (IntKind.i64.wrap (48 + d)) = 48 + d := by
  rw [wi (by omega) (by omega), w8 (by omega) (by omega)]

theorem S46_spec {neg : Bool} {l p : List Int} (hw : Wf l) (hl : l.length < 1000000) (hp : p.length ≤ 1) :
    limL S46_7 (((), (), (l.length : Int) - 1, ()), ((neg, l, ()), p, ())) = some (((), ()), p ++ l.reverse.map (fun d => 48 + d), ()) := by
  obtain ⟨z, h1, rfl⟩ := limL_ind (f := S46_7) (fun x => (x.1.2.2.1 + 1).toNat)
    (fun x => ∃ k : Nat, x = (((), (), (k : Int) - 1, ()), ((neg, l, ()), p ++ (l.drop k).reverse.map (fun d => 48 + d), ())) ∧ k ≤ l.length)
    (fun z => z = (((), ()), p ++ l.reverse.map (fun d => 48 + d), ())) (by
    rintro x ⟨k, rfl, hk⟩
    rw [S46_7_eq]
    rcases Nat.eq_zero_or_pos k with rfl | hk0
    · right
      exact ⟨_, if_neg (by simp), rfl⟩
    · obtain ⟨k, rfl⟩ : ∃ k', k = k' + 1 := ⟨k - 1, by omega⟩
      left
      have e1 : ((k + 1 : Nat) : Int) - 1 = (k : Int) := by omega
      have e2 : IntKind.i64.wrap ((k : Int) - 1) = (k : Int) - 1 := wi (by omega) (by omega)
      have hg := hw.getD k
      have hd := drop_at (l := l) (i := k) (by omega)
      refine ⟨(((), (), (k : Int) - 1, ()), ((neg, l, ()), p ++ (l.drop k).reverse.map (fun d => 48 + d), ())), ?_, ⟨k, rfl, by omega⟩, ?_⟩
      · rw [e1, if_pos (decide_eq_true (by omega)), if_pos (by omega), if_pos (by omega), Int.toNat_natCast, u8w hg.1 hg.2, e2, if_pos (by simp; omega), hd]
        simp
      · show ((k : Int) - 1 + 1).toNat < (((k + 1 : Nat) : Int) - 1 + 1).toNat
        omega) (((), (), (l.length : Int) - 1, ()), ((neg, l, ()), p, ())) ⟨l.length, by rw [List.drop_of_length_le (Nat.le_refl _)]; simp, Nat.le_refl _⟩
  exact h1

theorem map_u8 {l : List Int} (hw : Wf l) : (l.map fun d => 48 + d).map (fun n => UInt8.ofNat n.toNat) = l.map fun d => UInt8.ofNat (48 + d.toNat) := by
  rw [List.map_map]
  refine List.map_congr_left fun d hd => ?_
  have := hw d hd
  show UInt8.ofNat (48 + d).toNat = _
  congr 1
  omega

theorem L46_spec {z : Int} (hz : Sz 1000000 z) (hz1 : (lim z.natAbs).length < 1000000) : L46 (zl z, ()) = some ((str z, ()), ()) := by
  have hw := Wf_lim z.natAbs
  show F46 Lg46_7 ((decide (z < 0), lim z.natAbs), ()) = _
  rw [F46_eq]
  unfold str
  by_cases h0 : z = 0
  · subst h0
    rw [show lim (Int.natAbs 0) = [] from lim_zero, if_pos (by rfl), if_neg (by decide), show Int.natAbs 0 = 0 from rfl, dec_small (by decide)]
    rfl
  · have hne : lim z.natAbs ≠ [] := fun e => h0 (by have := lim_eq_nil.1 e; omega)
    have hlen : 0 < (lim z.natAbs).length := List.length_pos_iff.2 hne
    have hr : ((lim z.natAbs).reverse.map fun d => 48 + d).map (fun n => UInt8.ofNat n.toNat) = dec z.natAbs := by
      rw [dec_lim (by omega), List.map_reverse, List.map_reverse, List.map_reverse, map_u8 hw]
    rw [if_neg (by simp; exact hne), wi (by omega) (by omega)]
    by_cases h : z < 0
    · rw [if_pos (decide_eq_true h), if_pos h]
      show (limL S46_7 _).bind _ = _
      rw [S46_spec hw hz1 (by simp)]
      simp only [Option.bind_some, List.map_append]
      rw [hr]
      rfl
    · rw [if_neg (by simpa using h), if_neg h]
      show (limL S46_7 _).bind _ = _
      rw [S46_spec hw hz1 (by simp)]
      simp only [Option.bind_some, List.map_append]
      rw [hr]
      rfl

/-! ### Read -/
theorem u8r {c : UInt8} (h : 48 ≤ c.toNat ∧ c.toNat ≤ 57) : IntKind.i64.wrap (IntKind.u8.wrap ((c.toNat : Int) - 48)) = (c.toNat : Int) - 48 := by
  rw [w8 (by omega) (by omega), wi (by omega) (by omega)]

theorem getD_drop8 {s : List UInt8} {i : Nat} (h : i < s.length) : s.drop i = s.getD i 0 :: s.drop (i + 1) := by
  rw [List.drop_eq_getElem_cons h, List.getD_eq_getElem?_getD, List.getElem?_eq_getElem h]
  rfl

theorem S52_spec {neg : Bool} {s : List UInt8} (hd : IsD s) (hl : s.length < 1000000) :
    limL S52_6 ((s, (), (), (s.length : Int) - 1, ()), ((false, [], ()), (neg, (), ()), [], ())) = some (((), (), ()), ((false, [], ()), (neg, (), ()), s.reverse.map (fun c => (c.toNat : Int) - 48), ())) := by
  obtain ⟨z, h1, rfl⟩ := limL_ind (f := S52_6) (fun x => (x.1.2.2.2.1 + 1).toNat)
    (fun x => ∃ k : Nat, x = ((s, (), (), (k : Int) - 1, ()), ((false, [], ()), (neg, (), ()), (s.drop k).reverse.map (fun c => (c.toNat : Int) - 48), ())) ∧ k ≤ s.length)
    (fun z => z = (((), (), ()), ((false, [], ()), (neg, (), ()), s.reverse.map (fun c => (c.toNat : Int) - 48), ()))) (by
    rintro x ⟨k, rfl, hk⟩
    rw [S52_6_eq]
    rcases Nat.eq_zero_or_pos k with rfl | hk0
    · right
      exact ⟨_, if_neg (by simp), rfl⟩
    · obtain ⟨k, rfl⟩ : ∃ k', k = k' + 1 := ⟨k - 1, by omega⟩
      left
      have e1 : ((k + 1 : Nat) : Int) - 1 = (k : Int) := by omega
      have e2 : IntKind.i64.wrap ((k : Int) - 1) = (k : Int) - 1 := wi (by omega) (by omega)
      have hg := hd.getD (i := k) (by omega)
      refine ⟨((s, (), (), (k : Int) - 1, ()), ((false, [], ()), (neg, (), ()), (s.drop k).reverse.map (fun c => (c.toNat : Int) - 48), ())), ?_, ⟨k, rfl, by omega⟩, ?_⟩
      · rw [e1, if_pos (decide_eq_true (by omega)), if_pos (by omega), if_pos (by omega), Int.toNat_natCast, u8r hg, e2, if_pos (by simp; omega), getD_drop8 (s := s) (i := k) (by omega)]
        simp
      · show ((k : Int) - 1 + 1).toNat < (((k + 1 : Nat) : Int) - 1 + 1).toNat
        omega) ((s, (), (), (s.length : Int) - 1, ()), ((false, [], ()), (neg, (), ()), [], ())) ⟨s.length, by rw [List.drop_of_length_le (Nat.le_refl _)]; simp, Nat.le_refl _⟩
  exact h1

theorem Wf_read {s : List UInt8} (hd : IsD s) : Wf (s.reverse.map fun c => (c.toNat : Int) - 48) := by
  intro x hx
  obtain ⟨c, hc, rfl⟩ := List.mem_map.1 hx
  have := hd c (by simpa using hc)
  omega

theorem val_read {s : List UInt8} (hd : IsD s) : val (s.reverse.map fun c => (c.toNat : Int) - 48) = dv s := by
  induction s with
  | nil => rfl
  | cons c s ih =>
    have h1 := hd c (List.mem_cons_self ..)
    rw [List.reverse_cons, List.map_append, val_append, ih fun x hx => hd x (List.mem_cons_of_mem _ hx)]
    simp only [List.map_cons, List.map_nil, val, List.length_map, List.length_reverse, dv]
    rw [Int.natCast_add, Int.natCast_mul, Int.natCast_pow, show ((c.toNat - 48 : Nat) : Int) = (c.toNat : Int) - 48 by omega]
    grind

theorem L52_nat {s : List UInt8} (hd : IsD s) (hl : s.length < 1000000) : L52 (s, ()) = some ((zl (dv s), ()), ()) := by
  show F52 L96 Lg52_6 (s, ()) = _
  rw [F52_eq]
  have hb : ((Lg52_6 ((s, (), (), IntKind.i64.wrap ((s.length : Int) - 1), ()), (false, [], ()), (false, (), ()), [], ())).bind fun y => (L96 ((y.2.2.1.1, y.2.2.2.1), ())).bind fun y => some (((y.1.1.1, y.1.1.2), ()), ())) = some ((zl (dv s), ()), ()) := by
    rw [wi (by omega) (by omega)]
    show (limL S52_6 _).bind _ = _
    rw [S52_spec hd hl]
    simp only [Option.bind_some]
    rw [L96_spec (Wf_read hd) (by simp; omega), val_read hd, Int.toNat_natCast]
    rfl
  by_cases h0 : s = []
  · rw [if_neg (by rw [h0]; simp)]
    exact hb
  · have hlen : 0 < s.length := List.length_pos_iff.2 h0
    have hg := hd.getD hlen
    rw [if_pos (by simpa using h0), if_pos (by omega), if_neg (by rw [beq_iff_eq]; omega)]
    exact hb

theorem L52_neg {s : List UInt8} (hd : IsD s) (hl : s.length < 1000000) : L52 (45 :: s, ()) = some ((zl (-(dv s : Int)), ()), ()) := by
  show F52 L96 Lg52_6 (45 :: s, ()) = _
  rw [F52_eq, if_pos (by simp), if_pos (by simp), if_pos (by simp), if_pos (by simp; omega), if_pos (Int.le_refl _)]
  simp only [List.drop_succ_cons, List.drop_zero]
  rw [wi (by omega) (by omega)]
  show (limL S52_6 _).bind _ = _
  rw [S52_spec hd hl]
  simp only [Option.bind_some]
  rw [L96_spec (Wf_read hd) (by simp; omega), val_read hd, Int.toNat_natCast]
  rfl

theorem L52_str {z : Int} (hz : (dec z.natAbs).length < 1000000) : L52 (str z, ()) = some ((zl z, ()), ()) := by
  unfold str
  by_cases h : z < 0
  · rw [if_pos h, L52_neg (dec_IsD _) hz, dv_dec, show -(z.natAbs : Int) = z by omega]
  · rw [if_neg h, L52_nat (dec_IsD _) hz, dv_dec, show (z.natAbs : Int) = z by omega]

/-! ### Text, Small -/
theorem encR_d {d : Nat} (h : d < 10) : encR (48 + (d : Int)) = [UInt8.ofNat (48 + d)] := by
  rcases (show d = 0 ∨ d = 1 ∨ d = 2 ∨ d = 3 ∨ d = 4 ∨ d = 5 ∨ d = 6 ∨ d = 7 ∨ d = 8 ∨ d = 9 by omega) with rfl | rfl | rfl | rfl | rfl | rfl | rfl | rfl | rfl | rfl <;> decide +kernel

theorem w32i {n : Int} (h0 : -2147483648 ≤ n) (h1 : n < 2147483648) : IntKind.i32.wrap n = n := by
  simp [IntKind.wrap, IntKind.bits, IntKind.signed]
  omega

theorem iterF_succ {A B : Type} (Φ : (A → Option B) → A → Option B) (n : Nat) (x : A) : iterF Φ (n + 1) x = Φ (iterF Φ n) x := rfl

theorem F140_small (R : (SV.denL ps140) → Option (rs140).den) {n : Nat} (h9 : n < 10) : F140 R ((n : Int), 0, ()) = some ((dec n, ()), ()) := by
  have e1 : IntKind.i64.wrap ((n : Int) + 0) = (n : Int) := by rw [Int.add_zero, wi (by omega) (by omega)]
  have e2 : IntKind.i32.wrap (IntKind.i64.wrap (IntKind.i64.wrap (48 + (n : Int)) + 0)) = 48 + (n : Int) := by
    rw [wi (n := 48 + (n : Int)) (by omega) (by omega), Int.add_zero, wi (by omega) (by omega), w32i (by omega) (by omega)]
  rw [F140_eq, if_pos (decide_eq_true (by omega)), e1, if_pos (decide_eq_true (by omega)), e2, encR_d (by omega), dec_small (by omega)]

theorem F140_big (R : (SV.denL ps140) → Option (rs140).den) {n : Nat} (h9 : ¬ n < 10) (hn : n < 9223372036854775808) (hR : R (((n / 10 : Nat) : Int), 0, ()) = some ((dec (n / 10), ()), ())) : F140 R ((n : Int), 0, ()) = some ((dec n, ()), ()) := by
  have t1 := tdivB (n := (n : Int)) (by omega)
  have u1 := tmodB (n := (n : Int)) (by omega)
  have e0 : IntKind.i64.wrap ((n : Int) / 10) = ((n / 10 : Nat) : Int) := by rw [wi (by omega) (by omega)]; omega
  have e1 : IntKind.i64.wrap ((n : Int) % 10 + 0) = ((n % 10 : Nat) : Int) := by rw [wi (by omega) (by omega)]; omega
  have e2 : IntKind.i64.wrap (((n % 10 : Nat) : Int).tdiv 10) = 0 := by
    rw [tdivB (by omega), wi (by omega) (by omega)]; omega
  have e3 : IntKind.i32.wrap (IntKind.i64.wrap (48 + ((n % 10 : Nat) : Int).tmod 10)) = 48 + ((n % 10 : Nat) : Int) := by
    rw [tmodB (by omega), wi (by omega) (by omega), w32i (by omega) (by omega)]; omega
  have hL : (dec (n / 10)).length ≤ 19 := dec_length_le (show n / 10 < 10 ^ 19 by omega) (by decide)
  rw [F140_eq, if_neg (by simp; omega), t1, u1, e0, e1, e2, hR, e3, encR_d (by omega)]
  simp only [Option.bind_some]
  rw [if_pos (by simp; omega), ← dec_big h9]

theorem L140_fuel : ∀ (k n : Nat), n < 10 ^ (k + 1) → n < 9223372036854775808 → iterF (fun R => F140 R) (k + 1) ((n : Int), 0, ()) = some ((dec n, ()), ()) := by
  intro k
  induction k with
  | zero =>
    intro n h hn
    rw [iterF_succ]
    exact F140_small _ (by omega)
  | succ k ih =>
    intro n h hn
    rw [iterF_succ]
    by_cases h9 : n < 10
    · exact F140_small _ h9
    · exact F140_big _ h9 hn (ih (n / 10) (by rw [Nat.pow_succ] at h; omega) (by omega))

theorem L140_spec {n : Nat} (h : n < 9223372036854775808) : L140 ((n : Int), 0, ()) = some ((dec n, ()), ()) :=
  L140_fuel 99 n (Nat.lt_trans h (by decide)) h

theorem L113_spec {n : Nat} (h : n < 9223372036854775808) : L113 ((n : Int), ()) = some ((dec n, ()), ()) := by
  show F113 L140 ((n : Int), ()) = _
  rw [F113_eq, if_neg (by simp), L140_spec h]
  rfl

theorem L70_spec {n : Nat} (h : n < 9223372036854775808) : L70 ((n : Int), ()) = some ((zl n, ()), ()) := by
  show F70 L52 L113 ((n : Int), ()) = _
  have hl := dec_length_le (n := n) (k := 19) (Nat.lt_trans h (by decide)) (by decide)
  rw [F70_eq, L113_spec h]
  simp only [Option.bind_some]
  rw [L52_nat (dec_IsD n) (by omega), dv_dec]
  rfl
end Go.Proofs.Rf
