/- The functions, evaluated. -/
import Derived.Test.YtgkgjgcoalmldaaD40
namespace Go.Proofs.Rf
open Go Go.RowKit
theorem S52_2_eq (t5 : List Int) (t6 : Int) (t7 : Int) : S52_2 ((t5, t6, t7, ()), ()) = (
  if decide (t7 < t6) = true then
    if 0 ≤ t7 then
      if t7 < (↑t5.length : Int) then
        if (!t5.getD t7.toNat 0 == 0) = true then some (Sum.inr (Sum.inl ((t5.getD t7.toNat 0, ()), ())))
        else some (Sum.inl ((t5, t6, IntKind.i64.wrap (t7 + 1), ()), ()))
      else none
    else none
  else some (Sum.inr (Sum.inr ((), ()))) : Option (sh52_2.den ⊕ denX w52_2)) := by kernel_rfl
theorem F52_eq (g52_2 : sh52_2.den → Option (denX w52_2)) (l0 : List Int) : F52 g52_2 (l0, ()) = (
  (g52_2 ((l0, (↑l0.length : Int), 0, ()), ())).bind fun y =>
    Sum.elim (fun y => some ((y.1.1, ()), ())) (fun z => some ((0, ()), ())) y : Option rs52.den) := by kernel_rfl
theorem F53_eq (is0 : Bool) (e1 : Int) : F53 (is0, e1, ()) = (
  if is0 = true then some ((e1, ()), ()) else some ((0, ()), ()) : Option rs53.den) := by kernel_rfl
theorem F54_eq (n0 : Int) : F54 (n0, ()) = (
  if decide (n0 ≥ 2) = true then some ((decide (n0 ≤ 36), ()), ()) else some ((false, ()), ()) : Option rs54.den) := by kernel_rfl
theorem F112_eq (s0 : List UInt8) (prefix1 : List UInt8) : F112 (s0, prefix1, ()) = (
  if decide ((↑s0.length : Int) ≥ (↑prefix1.length : Int)) = true then
    if (↑prefix1.length : Int) ≤ (↑s0.length : Int) then
      some ((List.take (↑prefix1.length : Int).toNat s0 == prefix1, ()), ())
    else none
  else some ((false, ()), ()) : Option rs112.den) := by kernel_rfl
theorem F95_eq (F112 : (SV.denL ps112) → Option (rs112).den) (s0 : List UInt8) (prefix1 : List UInt8) : F95 F112 (s0, prefix1, ()) = (
  (F112 (s0, prefix1, ())).bind fun y =>
    if y.1.1 = true then
      if (↑prefix1.length : Int) ≤ (↑s0.length : Int) then
        if (↑s0.length : Int) ≤ (↑s0.length : Int) then some ((List.drop (↑prefix1.length : Int).toNat s0, ()), ())
        else none
      else none
    else some ((s0, ()), ()) : Option rs95.den) := by kernel_rfl
theorem F56_eq (F95 : (SV.denL ps95) → Option (rs95).den) (s0 : List UInt8) (prefix1 : List UInt8) : F56 F95 (s0, prefix1, ()) = (
  (F95 (s0, prefix1, ())).bind fun y => some ((y.1.1, ()), ()) : Option rs56.den) := by kernel_rfl
theorem F60_eq (c0 : Int) : F60 (c0, ()) = (
  if decide (c0 ≥ 48) = true then
    if decide (c0 ≤ 57) = true then some ((IntKind.i64.wrap (IntKind.i32.wrap (c0 - 48)), ()), ())
    else
      if decide (c0 ≥ 97) = true then
        if decide (c0 ≤ 122) = true then
          some ((IntKind.i64.wrap (IntKind.i64.wrap (IntKind.i32.wrap (c0 - 97)) + 10), ()), ())
        else some ((99, ()), ())
      else some ((99, ()), ())
  else
    if decide (c0 ≥ 97) = true then
      if decide (c0 ≤ 122) = true then
        some ((IntKind.i64.wrap (IntKind.i64.wrap (IntKind.i32.wrap (c0 - 97)) + 10), ()), ())
      else some ((99, ()), ())
    else some ((99, ()), ()) : Option rs60.den) := by kernel_rfl
theorem S55_5_eq (F60 : (SV.denL ps60) → Option (rs60).den) (base1 : Int) (it0s : List UInt8) (it0p : Nat) : S55_5 F60 ((base1, (), ()), ((it0s, it0p), ())) = (
  if it0p < it0s.length then
    (F60 ((↑(Utf8.decode { data := { toList := it0s } } it0p).1 : Int), ())).bind fun y =>
      if decide (y.1.1 ≥ base1) = true then some (Sum.inr (Sum.inl ((false, ()), ())))
      else some (Sum.inl ((base1, (), ()), (it0s, it0p + (Utf8.decode { data := { toList := it0s } } it0p).2), ()))
  else some (Sum.inr (Sum.inr ((), ()))) : Option (sh55_5.den ⊕ denX w55_5)) := by kernel_rfl
theorem F55_eq (F56 : (SV.denL ps56) → Option (rs56).den) (g55_5 : sh55_5.den → Option (denX w55_5)) (s0 : List UInt8) (base1 : Int) : F55 F56 g55_5 (s0, base1, ()) = (
  (F56 (s0, [(45 : UInt8)], ())).bind fun y =>
    if (y.1.1 == []) = true then some ((false, ()), ())
    else
      if (s0 == [(45 : UInt8), (48 : UInt8)]) = true then
        some ((false, ()), ())
      else
        if decide ((↑(List.length y.1.1) : Int) > 1) = true then
          if 0 < (↑(List.length y.1.1) : Int) then
            if ((↑(List.getD y.1.1 0 (0 : UInt8)).toNat : Int) == 48) = true then
              some ((false, ()), ())
            else
              (g55_5 ((base1, (), ()), (y.1.1, 0), ())).bind fun y =>
                Sum.elim (fun y => some ((y.1.1, ()), ())) (fun z => some ((true, ()), ())) y
          else none
        else
          (g55_5 ((base1, (), ()), (y.1.1, 0), ())).bind fun y =>
            Sum.elim (fun y => some ((y.1.1, ()), ())) (fun z => some ((true, ()), ())) y : Option rs55.den) := by kernel_rfl
theorem F97_eq (s0 : List Int) : F97 (s0, ()) = (
  if 0 < s0.length then if 0 + s0.length ≤ 4294967296 then some ((s0, ()), ()) else none
  else meet (some (([], ()), ())) (if 0 + s0.length ≤ 4294967296 then some ((s0, ()), ()) else none) : Option rs97.den) := by kernel_rfl
theorem F61_eq (F97 : (SV.denL ps97) → Option (rs97).den) (neg0 : Bool) (a1 : List Int) : F61 F97 (neg0, a1, ()) = (
  if neg0 = true then (F97 (a1, ())).bind fun y => some (((decide ((↑a1.length : Int) > 0), y.1.1), ()), ())
  else (F97 (a1, ())).bind fun y => some (((false, y.1.1), ()), ()) : Option rs61.den) := by kernel_rfl
theorem S96_2_eq (a0 : List Int) (n3 : Int) : S96_2 ((a0, n3, ()), ()) = (
  if decide (n3 > 0) = true then
    if 0 ≤ IntKind.i64.wrap (n3 - 1) then
      if IntKind.i64.wrap (n3 - 1) < (↑a0.length : Int) then
        if (a0.getD (IntKind.i64.wrap (n3 - 1)).toNat 0 == 0) = true then
          some (Sum.inl ((a0, IntKind.i64.wrap (n3 - 1), ()), ()))
        else some (Sum.inr ((a0, n3, ()), ()))
      else none
    else none
  else some (Sum.inr ((a0, n3, ()), ())) : Option (sh96_2.den ⊕ denX w96_2)) := by kernel_rfl
theorem F96_eq (g96_2 : sh96_2.den → Option (denX w96_2)) (a0 : List Int) : F96 g96_2 (a0, ()) = (
  (g96_2 ((a0, (↑a0.length : Int), ()), ())).bind fun y =>
    if 0 ≤ y.1.2.1 then
      if y.1.2.1 ≤ (↑(List.length y.1.1) : Int) then some ((List.take (Int.toNat y.1.2.1) y.1.1, ()), ()) else none
    else none : Option rs96.den) := by kernel_rfl
theorem S57_7_eq (b1 : List Int) (i6 : Int) (x7 : Int) (carry8 : Int) (t18 : List Int) (t19 : Int) (t20 : Int) (t25 : List Int) (t26 : Int) (t27 : Int) (r0 : List Int) : S57_7 ((b1, (), i6, x7, carry8, t18, t19, t20, t25, t26, t27, ()), (r0, ())) = (
  if decide (t27 < t26) = true then
    if 0 ≤ t27 then
      if t27 < (↑t25.length : Int) then
        if 0 ≤ IntKind.i64.wrap (i6 + t27) then
          if IntKind.i64.wrap (i6 + t27) < (↑r0.length : Int) then
            if 0 ≤ IntKind.i64.wrap (i6 + t27) then
              if IntKind.i64.wrap (i6 + t27) < (↑r0.length : Int) then
                some
                  (Sum.inl
                    ((b1, (), i6, x7,
                        (IntKind.u64.wrap
                              (IntKind.u64.wrap
                                  (IntKind.u64.wrap (IntKind.u64.wrap x7 * IntKind.u64.wrap (t25.getD t27.toNat 0)) +
                                    IntKind.u64.wrap (r0.getD (IntKind.i64.wrap (i6 + t27)).toNat 0)) +
                                carry8)).fdiv
                          (2 ^ 32),
                        t18, t19, t20, t25, t26, IntKind.i64.wrap (t27 + 1), ()),
                      r0.set (IntKind.i64.wrap (i6 + t27)).toNat
                        (IntKind.u32.wrap
                          (IntKind.u64.wrap
                            (IntKind.u64.wrap
                                (IntKind.u64.wrap (IntKind.u64.wrap x7 * IntKind.u64.wrap (t25.getD t27.toNat 0)) +
                                  IntKind.u64.wrap (r0.getD (IntKind.i64.wrap (i6 + t27)).toNat 0)) +
                              carry8))),
                      ()))
              else none
            else none
          else none
        else none
      else none
    else none
  else some (Sum.inr ((b1, (), i6, carry8, t18, t19, t20, ()), r0, ())) : Option (sh57_7.den ⊕ denX w57_7)) := by kernel_rfl
theorem S57_3_eq (g57_7 : sh57_7.den → Option (denX w57_7)) (b1 : List Int) (t18 : List Int) (t19 : Int) (t20 : Int) (r0 : List Int) : S57_3 g57_7 ((b1, (), t18, t19, t20, ()), (r0, ())) = (
  if decide (t20 < t19) = true then
    if 0 ≤ t20 then
      if t20 < (↑t18.length : Int) then
        (g57_7 ((b1, (), t20, t18.getD t20.toNat 0, 0, t18, t19, t20, b1, (↑b1.length : Int), 0, ()), r0, ())).bind
          fun y =>
          if 0 ≤ IntKind.i64.wrap (y.1.2.2.1 + (↑(List.length y.1.1) : Int)) then
            if IntKind.i64.wrap (y.1.2.2.1 + (↑(List.length y.1.1) : Int)) < (↑(List.length y.2.1) : Int) then
              if 0 ≤ IntKind.i64.wrap (y.1.2.2.1 + (↑(List.length y.1.1) : Int)) then
                if IntKind.i64.wrap (y.1.2.2.1 + (↑(List.length y.1.1) : Int)) < (↑(List.length y.2.1) : Int) then
                  some
                    (Sum.inl
                      ((y.1.1, (), y.1.2.2.2.2.1, y.1.2.2.2.2.2.1, IntKind.i64.wrap (y.1.2.2.2.2.2.2.1 + 1), ()),
                        List.set y.2.1 (IntKind.i64.wrap (y.1.2.2.1 + (↑(List.length y.1.1) : Int))).toNat
                          (IntKind.u32.wrap
                            (List.getD y.2.1 (IntKind.i64.wrap (y.1.2.2.1 + (↑(List.length y.1.1) : Int))).toNat 0 +
                              IntKind.u32.wrap y.1.2.2.2.1)),
                        ()))
                else none
              else none
            else none
          else none
      else none
    else none
  else some (Sum.inr (((), ()), r0, ())) : Option (sh57_3.den ⊕ denX w57_3)) := by kernel_rfl
theorem F57_eq (F96 : (SV.denL ps96) → Option (rs96).den) (g57_3 : sh57_3.den → Option (denX w57_3)) (a0 : List Int) (b1 : List Int) : F57 F96 g57_3 (a0, b1, ()) = (
  if 0 ≤ IntKind.i64.wrap ((↑a0.length : Int) + (↑b1.length : Int)) then
    if
        IntKind.i64.wrap ((↑a0.length : Int) + (↑b1.length : Int)) ≤
          IntKind.i64.wrap ((↑a0.length : Int) + (↑b1.length : Int)) then
      if IntKind.i64.wrap ((↑a0.length : Int) + (↑b1.length : Int)) ≤ ((4294967296 : Nat) : Int) then
        (g57_3
              ((b1, (), a0, (↑a0.length : Int), 0, ()),
                List.replicate (IntKind.i64.wrap ((↑a0.length : Int) + (↑b1.length : Int))).toNat 0, ())).bind
          fun y => (F96 (y.2.1, ())).bind fun y => some ((y.1.1, ()), ())
      else none
    else none
  else none : Option rs57.den) := by kernel_rfl
theorem F58_eq (F96 : (SV.denL ps96) → Option (rs96).den) (n0 : Int) : F58 F96 (n0, ()) = (
  (F96 ([n0], ())).bind fun y => some ((y.1.1, ()), ()) : Option rs58.den) := by kernel_rfl
theorem F71_eq (a0 : List Int) (i1 : Int) : F71 (a0, i1, ()) = (
  if decide (i1 < (↑a0.length : Int)) = true then
    if 0 ≤ i1 then if i1 < (↑a0.length : Int) then some ((a0.getD i1.toNat 0, ()), ()) else none else none
  else some ((0, ()), ()) : Option rs71.den) := by kernel_rfl
theorem S59_4_eq (F71 : (SV.denL ps71) → Option (rs71).den) (a0 : List Int) (b1 : List Int) (carry6 : Int) (t17 : Int) (t18 : Int) (r0 : List Int) : S59_4 F71 ((a0, b1, (), carry6, t17, t18, ()), (r0, ())) = (
  if decide (t18 < t17) = true then
    (F71 (a0, t18, ())).bind fun y =>
      (F71 (b1, t18, ())).bind fun y_1 =>
        if 0 ≤ t18 then
          if t18 < (↑r0.length : Int) then
            some
              (Sum.inl
                ((a0, b1, (),
                    (IntKind.u64.wrap
                          (IntKind.u64.wrap (IntKind.u64.wrap y.1.1 + IntKind.u64.wrap y_1.1.1) + carry6)).fdiv
                      (2 ^ 32),
                    t17, IntKind.i64.wrap (t18 + 1), ()),
                  r0.set t18.toNat
                    (IntKind.u32.wrap
                      (IntKind.u64.wrap (IntKind.u64.wrap (IntKind.u64.wrap y.1.1 + IntKind.u64.wrap y_1.1.1) + carry6))),
                  ()))
          else none
        else none
  else some (Sum.inr (((), ()), r0, ())) : Option (sh59_4.den ⊕ denX w59_4)) := by kernel_rfl
theorem F59_eq (F96 : (SV.denL ps96) → Option (rs96).den) (g59_4 : sh59_4.den → Option (denX w59_4)) (a0 : List Int) (b1 : List Int) : F59 F96 g59_4 (a0, b1, ()) = (
  if 0 ≤ IntKind.i64.wrap (imax (↑a0.length : Int) (↑b1.length : Int) + 1) then
    if
        IntKind.i64.wrap (imax (↑a0.length : Int) (↑b1.length : Int) + 1) ≤
          IntKind.i64.wrap (imax (↑a0.length : Int) (↑b1.length : Int) + 1) then
      if IntKind.i64.wrap (imax (↑a0.length : Int) (↑b1.length : Int) + 1) ≤ ((4294967296 : Nat) : Int) then
        (g59_4
              ((a0, b1, (), 0,
                  (↑(List.replicate (IntKind.i64.wrap (imax (↑a0.length : Int) (↑b1.length : Int) + 1)).toNat (0 : Int)).length :
                    Int),
                  0, ()),
                List.replicate (IntKind.i64.wrap (imax (↑a0.length : Int) (↑b1.length : Int) + 1)).toNat 0, ())).bind
          fun y => (F96 (y.2.1, ())).bind fun y => some ((y.1.1, ()), ())
      else none
    else none
  else none : Option rs59.den) := by kernel_rfl
theorem S11_8_eq (F57 : (SV.denL ps57) → Option (rs57).den) (F58 : (SV.denL ps58) → Option (rs58).den) (F59 : (SV.denL ps59) → Option (rs59).den) (F60 : (SV.denL ps60) → Option (rs60).den) (s0 : List UInt8) (base1 : Int) (a7 : List Int) (b0_0 : Bool) (b0_1 : List Int) (it1s : List UInt8) (it1p : Nat) : S11_8 F57 F58 F59 F60 ((s0, base1, (), a7, (), ()), ((b0_0, b0_1, ()), (it1s, it1p), ())) = (
  if it1p < it1s.length then
    (F58 (IntKind.u32.wrap base1, ())).bind fun y =>
      (F57 (a7, y.1.1, ())).bind fun y =>
        (F60 ((↑(Utf8.decode { data := { toList := it1s } } it1p).1 : Int), ())).bind fun y_1 =>
          (F58 (IntKind.u32.wrap y_1.1.1, ())).bind fun y_2 =>
            (F59 (y.1.1, y_2.1.1, ())).bind fun y =>
              if decide ((↑(List.length y.1.1) : Int) > 200) = true then
                some (Sum.inr (Sum.inl (((), 4, ()), (false, [], ()), ())))
              else
                some
                  (Sum.inl
                    ((s0, base1, (), y.1.1, (), ()), (b0_0, b0_1, ()),
                      (it1s, it1p + (Utf8.decode { data := { toList := it1s } } it1p).2), ()))
  else some (Sum.inr (Sum.inr ((s0, (), a7, ()), (b0_0, b0_1, ()), ()))) : Option (sh11_8.den ⊕ denX w11_8)) := by kernel_rfl
theorem F11_eq (F52 : (SV.denL ps52) → Option (rs52).den) (F53 : (SV.denL ps53) → Option (rs53).den) (F54 : (SV.denL ps54) → Option (rs54).den) (F55 : (SV.denL ps55) → Option (rs55).den) (F56 : (SV.denL ps56) → Option (rs56).den) (F61 : (SV.denL ps61) → Option (rs61).den) (g11_8 : sh11_8.den → Option (denX w11_8)) (s0 : List UInt8) (base1 : Int) : F11 F52 F53 F54 F55 F56 F61 g11_8 (s0, base1, ()) = (
  (F54 (base1, ())).bind fun y =>
    (F53 (!y.1.1, 3, ())).bind fun y =>
      (F53 (decide ((↑s0.length : Int) > 7000), 20, ())).bind fun y_1 =>
        (F52 ([y.1.1, y_1.1.1], ())).bind fun y =>
          if (!y.1.1 == 0) = true then some (((false, []), y.1.1, ()), ())
          else
            (F55 (s0, base1, ())).bind fun y =>
              if (!y.1.1) = true then some (((false, []), 19, ()), ())
              else
                (F56 (s0, [(45 : UInt8)], ())).bind fun y =>
                  (g11_8 ((s0, base1, (), [], (), ()), (false, [], ()), (y.1.1, 0), ())).bind fun y =>
                    Sum.elim (fun y => some (((y.2.1.1, y.2.1.2.1), y.1.2.1, ()), ()))
                      (fun z =>
                        if 0 < (↑(List.length z.1.1) : Int) then
                          (F61
                                ((↑(List.getD z.1.1 0 (0 : UInt8)).toNat : Int) == 45, z.1.2.2.1,
                                  ())).bind
                            fun y => some (((y.1.1.1, y.1.1.2), 0, ()), ())
                        else none)
                      y : Option rs11.den) := by kernel_rfl
theorem S62_6_eq (a0 : List Int) (b1 : List Int) (i5 : Int) : S62_6 ((a0, b1, i5, ()), ()) = (
  if decide (i5 ≥ 0) = true then
    if 0 ≤ i5 then
      if i5 < (↑a0.length : Int) then
        if 0 ≤ i5 then
          if i5 < (↑b1.length : Int) then
            if decide (a0.getD i5.toNat 0 < b1.getD i5.toNat 0) = true then some (Sum.inr (Sum.inl ((-1, ()), ())))
            else
              if 0 ≤ i5 then
                if i5 < (↑a0.length : Int) then
                  if 0 ≤ i5 then
                    if i5 < (↑b1.length : Int) then
                      if decide (a0.getD i5.toNat 0 > b1.getD i5.toNat 0) = true then
                        some (Sum.inr (Sum.inl ((1, ()), ())))
                      else some (Sum.inl ((a0, b1, IntKind.i64.wrap (i5 - 1), ()), ()))
                    else none
                  else none
                else none
              else none
          else none
        else none
      else none
    else none
  else some (Sum.inr (Sum.inr ((), ()))) : Option (sh62_6.den ⊕ denX w62_6)) := by kernel_rfl
theorem F62_eq (g62_6 : sh62_6.den → Option (denX w62_6)) (a0 : List Int) (b1 : List Int) : F62 g62_6 (a0, b1, ()) = (
  if (!(↑a0.length : Int) == (↑b1.length : Int)) = true then
    if decide ((↑a0.length : Int) < (↑b1.length : Int)) = true then some ((-1, ()), ()) else some ((1, ()), ())
  else
    (g62_6 ((a0, b1, IntKind.i64.wrap ((↑a0.length : Int) - 1), ()), ())).bind fun y =>
      Sum.elim (fun y => some ((y.1.1, ()), ())) (fun z => some ((0, ()), ())) y : Option rs62.den) := by kernel_rfl
theorem F12_eq (F62 : (SV.denL ps62) → Option (rs62).den) (a0_0 : Bool) (a0_1 : List Int) (b1_0 : Bool) (b1_1 : List Int) : F12 F62 ((a0_0, a0_1), (b1_0, b1_1), ()) = (
  if (a0_0 == b1_0) = true then
    (F62 (a0_1, b1_1, ())).bind fun y =>
      if (y.1.1 == 0) = true then some (((↑a0_1.length : Int) == (↑b1_1.length : Int), ()), ())
      else some ((false, ()), ())
  else some ((false, ()), ()) : Option rs12.den) := by kernel_rfl
theorem F13_eq (a0_0 : Bool) (a0_1 : List Int) : F13 ((a0_0, a0_1), ()) = (
  some (((a0_0, a0_1), ()), ()) : Option rs13.den) := by kernel_rfl
theorem S50_2_eq (l0 : List Int) (n3 : Int) : S50_2 ((l0, n3, ()), ()) = (
  if decide (n3 > 0) = true then
    if 0 ≤ IntKind.i64.wrap (n3 - 1) then
      if IntKind.i64.wrap (n3 - 1) < (↑l0.length : Int) then
        if (l0.getD (IntKind.i64.wrap (n3 - 1)).toNat 0 == 0) = true then
          some (Sum.inl ((l0, IntKind.i64.wrap (n3 - 1), ()), ()))
        else some (Sum.inr ((l0, n3, ()), ()))
      else none
    else none
  else some (Sum.inr ((l0, n3, ()), ())) : Option (sh50_2.den ⊕ denX w50_2)) := by kernel_rfl
theorem F50_eq (g50_2 : sh50_2.den → Option (denX w50_2)) (l0 : List Int) : F50 g50_2 (l0, ()) = (
  (g50_2 ((l0, (↑l0.length : Int), ()), ())).bind fun y =>
    if 0 ≤ y.1.2.1 then
      if y.1.2.1 ≤ (↑(List.length y.1.1) : Int) then some ((List.take (Int.toNat y.1.2.1) y.1.1, ()), ()) else none
    else none : Option rs50.den) := by kernel_rfl
theorem F51_eq (F50 : (SV.denL ps50) → Option (rs50).den) (neg0 : Bool) (l1 : List Int) : F51 F50 (neg0, l1, ()) = (
  (F50 (l1, ())).bind fun y =>
    if decide ((↑(List.length y.1.1) : Int) > 200) = true then some (((false, []), 4, ()), ())
    else
      if neg0 = true then some (((decide ((↑(List.length y.1.1) : Int) > 0), y.1.1), 0, ()), ())
      else some (((false, y.1.1), 0, ()), ()) : Option rs51.den) := by kernel_rfl
theorem F94_eq (c0 : Int) : F94 (c0, ()) = (
  if decide (c0 ≥ 48) = true then some ((decide (c0 ≤ 57), ()), ()) else some ((false, ()), ()) : Option rs94.den) := by kernel_rfl
theorem F47_eq (F94 : (SV.denL ps94) → Option (rs94).den) (c0 : Int) : F47 F94 (c0, ()) = (
  (F94 (c0, ())).bind fun y =>
    if y.1.1 = true then some ((IntKind.i64.wrap (IntKind.u8.wrap (c0 - 48)), ()), ())
    else
      if decide (c0 ≥ 97) = true then
        if decide (c0 ≤ 122) = true then
          some ((IntKind.i64.wrap (IntKind.i64.wrap (IntKind.u8.wrap (c0 - 97)) + 10), ()), ())
        else some ((99, ()), ())
      else some ((99, ()), ()) : Option rs47.den) := by kernel_rfl
theorem S48_4_eq (a0 : List Int) (b1 : List Int) (carry6 : Int) (i7 : Int) (r0 : List Int) : S48_4 ((a0, b1, (), carry6, i7, ()), (r0, ())) = (
  if decide (i7 < (↑a0.length : Int)) = true then
    if decide (i7 < (↑a0.length : Int)) = true then
      if 0 ≤ i7 then
        if i7 < (↑a0.length : Int) then
          if decide (i7 < (↑b1.length : Int)) = true then
            if 0 ≤ i7 then
              if i7 < (↑b1.length : Int) then
                if
                    r0.length +
                        [IntKind.u32.wrap
                              ((IntKind.u64.wrap
                                    (IntKind.u64.wrap (carry6 + IntKind.u64.wrap (a0.getD i7.toNat 0)) +
                                      IntKind.u64.wrap (b1.getD i7.toNat 0))).tmod
                                4294967296)].length ≤
                      4294967296 then
                  some
                    (Sum.inl
                      ((a0, b1, (),
                          IntKind.u64.wrap
                            ((IntKind.u64.wrap
                                  (IntKind.u64.wrap (carry6 + IntKind.u64.wrap (a0.getD i7.toNat 0)) +
                                    IntKind.u64.wrap (b1.getD i7.toNat 0))).tdiv
                              4294967296),
                          IntKind.i64.wrap (i7 + 1), ()),
                        r0 ++
                          [IntKind.u32.wrap
                              ((IntKind.u64.wrap
                                    (IntKind.u64.wrap (carry6 + IntKind.u64.wrap (a0.getD i7.toNat 0)) +
                                      IntKind.u64.wrap (b1.getD i7.toNat 0))).tmod
                                4294967296)],
                        ()))
                else none
              else none
            else none
          else
            if
                r0.length +
                    [IntKind.u32.wrap
                          ((IntKind.u64.wrap (carry6 + IntKind.u64.wrap (a0.getD i7.toNat 0))).tmod 4294967296)].length ≤
                  4294967296 then
              some
                (Sum.inl
                  ((a0, b1, (),
                      IntKind.u64.wrap
                        ((IntKind.u64.wrap (carry6 + IntKind.u64.wrap (a0.getD i7.toNat 0))).tdiv 4294967296),
                      IntKind.i64.wrap (i7 + 1), ()),
                    r0 ++
                      [IntKind.u32.wrap
                          ((IntKind.u64.wrap (carry6 + IntKind.u64.wrap (a0.getD i7.toNat 0))).tmod 4294967296)],
                    ()))
            else none
        else none
      else none
    else
      if decide (i7 < (↑b1.length : Int)) = true then
        if 0 ≤ i7 then
          if i7 < (↑b1.length : Int) then
            if
                r0.length +
                    [IntKind.u32.wrap
                          ((IntKind.u64.wrap (carry6 + IntKind.u64.wrap (b1.getD i7.toNat 0))).tmod 4294967296)].length ≤
                  4294967296 then
              some
                (Sum.inl
                  ((a0, b1, (),
                      IntKind.u64.wrap
                        ((IntKind.u64.wrap (carry6 + IntKind.u64.wrap (b1.getD i7.toNat 0))).tdiv 4294967296),
                      IntKind.i64.wrap (i7 + 1), ()),
                    r0 ++
                      [IntKind.u32.wrap
                          ((IntKind.u64.wrap (carry6 + IntKind.u64.wrap (b1.getD i7.toNat 0))).tmod 4294967296)],
                    ()))
            else none
          else none
        else none
      else
        if r0.length + [IntKind.u32.wrap (carry6.tmod 4294967296)].length ≤ 4294967296 then
          some
            (Sum.inl
              ((a0, b1, (), IntKind.u64.wrap (carry6.tdiv 4294967296), IntKind.i64.wrap (i7 + 1), ()),
                r0 ++ [IntKind.u32.wrap (carry6.tmod 4294967296)], ()))
        else none
  else
    if decide (i7 < (↑b1.length : Int)) = true then
      if decide (i7 < (↑a0.length : Int)) = true then
        if 0 ≤ i7 then
          if i7 < (↑a0.length : Int) then
            if decide (i7 < (↑b1.length : Int)) = true then
              if 0 ≤ i7 then
                if i7 < (↑b1.length : Int) then
                  if
                      r0.length +
                          [IntKind.u32.wrap
                                ((IntKind.u64.wrap
                                      (IntKind.u64.wrap (carry6 + IntKind.u64.wrap (a0.getD i7.toNat 0)) +
                                        IntKind.u64.wrap (b1.getD i7.toNat 0))).tmod
                                  4294967296)].length ≤
                        4294967296 then
                    some
                      (Sum.inl
                        ((a0, b1, (),
                            IntKind.u64.wrap
                              ((IntKind.u64.wrap
                                    (IntKind.u64.wrap (carry6 + IntKind.u64.wrap (a0.getD i7.toNat 0)) +
                                      IntKind.u64.wrap (b1.getD i7.toNat 0))).tdiv
                                4294967296),
                            IntKind.i64.wrap (i7 + 1), ()),
                          r0 ++
                            [IntKind.u32.wrap
                                ((IntKind.u64.wrap
                                      (IntKind.u64.wrap (carry6 + IntKind.u64.wrap (a0.getD i7.toNat 0)) +
                                        IntKind.u64.wrap (b1.getD i7.toNat 0))).tmod
                                  4294967296)],
                          ()))
                  else none
                else none
              else none
            else
              if
                  r0.length +
                      [IntKind.u32.wrap
                            ((IntKind.u64.wrap (carry6 + IntKind.u64.wrap (a0.getD i7.toNat 0))).tmod
                              4294967296)].length ≤
                    4294967296 then
                some
                  (Sum.inl
                    ((a0, b1, (),
                        IntKind.u64.wrap
                          ((IntKind.u64.wrap (carry6 + IntKind.u64.wrap (a0.getD i7.toNat 0))).tdiv 4294967296),
                        IntKind.i64.wrap (i7 + 1), ()),
                      r0 ++
                        [IntKind.u32.wrap
                            ((IntKind.u64.wrap (carry6 + IntKind.u64.wrap (a0.getD i7.toNat 0))).tmod 4294967296)],
                      ()))
              else none
          else none
        else none
      else
        if decide (i7 < (↑b1.length : Int)) = true then
          if 0 ≤ i7 then
            if i7 < (↑b1.length : Int) then
              if
                  r0.length +
                      [IntKind.u32.wrap
                            ((IntKind.u64.wrap (carry6 + IntKind.u64.wrap (b1.getD i7.toNat 0))).tmod
                              4294967296)].length ≤
                    4294967296 then
                some
                  (Sum.inl
                    ((a0, b1, (),
                        IntKind.u64.wrap
                          ((IntKind.u64.wrap (carry6 + IntKind.u64.wrap (b1.getD i7.toNat 0))).tdiv 4294967296),
                        IntKind.i64.wrap (i7 + 1), ()),
                      r0 ++
                        [IntKind.u32.wrap
                            ((IntKind.u64.wrap (carry6 + IntKind.u64.wrap (b1.getD i7.toNat 0))).tmod 4294967296)],
                      ()))
              else none
            else none
          else none
        else
          if r0.length + [IntKind.u32.wrap (carry6.tmod 4294967296)].length ≤ 4294967296 then
            some
              (Sum.inl
                ((a0, b1, (), IntKind.u64.wrap (carry6.tdiv 4294967296), IntKind.i64.wrap (i7 + 1), ()),
                  r0 ++ [IntKind.u32.wrap (carry6.tmod 4294967296)], ()))
          else none
    else some (Sum.inr (((), carry6, ()), r0, ())) : Option (sh48_4.den ⊕ denX w48_4)) := by kernel_rfl
theorem F48_eq (F50 : (SV.denL ps50) → Option (rs50).den) (g48_4 : sh48_4.den → Option (denX w48_4)) (a0 : List Int) (b1 : List Int) : F48 F50 g48_4 (a0, b1, ()) = (
  (g48_4 ((a0, b1, (), 0, 0, ()), [], ())).bind fun y =>
    if List.length y.2.1 + [IntKind.u32.wrap y.1.2.1].length ≤ 4294967296 then
      (F50 (y.2.1 ++ [IntKind.u32.wrap y.1.2.1], ())).bind fun y => some ((y.1.1, ()), ())
    else none : Option rs48.den) := by kernel_rfl
theorem S49_7_eq (a0 : List Int) (b1 : List Int) (i6 : Int) (carry7 : Int) (k8 : Int) (r0 : List Int) : S49_7 ((a0, b1, (), i6, carry7, k8, ()), (r0, ())) = (
  if decide (k8 < (↑b1.length : Int)) = true then
    if 0 ≤ i6 then
      if i6 < (↑a0.length : Int) then
        if 0 ≤ k8 then
          if k8 < (↑b1.length : Int) then
            if 0 ≤ IntKind.i64.wrap (i6 + k8) then
              if IntKind.i64.wrap (i6 + k8) < (↑r0.length : Int) then
                if 0 ≤ IntKind.i64.wrap (i6 + k8) then
                  if IntKind.i64.wrap (i6 + k8) < (↑r0.length : Int) then
                    some
                      (Sum.inl
                        ((a0, b1, (), i6,
                            IntKind.u64.wrap
                              ((IntKind.u64.wrap
                                    (IntKind.u64.wrap
                                        (carry7 +
                                          IntKind.u64.wrap
                                            (IntKind.u64.wrap (a0.getD i6.toNat 0) *
                                              IntKind.u64.wrap (b1.getD k8.toNat 0))) +
                                      IntKind.u64.wrap (r0.getD (IntKind.i64.wrap (i6 + k8)).toNat 0))).tdiv
                                4294967296),
                            IntKind.i64.wrap (k8 + 1), ()),
                          r0.set (IntKind.i64.wrap (i6 + k8)).toNat
                            (IntKind.u32.wrap
                              ((IntKind.u64.wrap
                                    (IntKind.u64.wrap
                                        (carry7 +
                                          IntKind.u64.wrap
                                            (IntKind.u64.wrap (a0.getD i6.toNat 0) *
                                              IntKind.u64.wrap (b1.getD k8.toNat 0))) +
                                      IntKind.u64.wrap (r0.getD (IntKind.i64.wrap (i6 + k8)).toNat 0))).tmod
                                4294967296)),
                          ()))
                  else none
                else none
              else none
            else none
          else none
        else none
      else none
    else none
  else some (Sum.inr ((a0, b1, (), i6, carry7, ()), r0, ())) : Option (sh49_7.den ⊕ denX w49_7)) := by kernel_rfl
theorem S49_3_eq (g49_7 : sh49_7.den → Option (denX w49_7)) (a0 : List Int) (b1 : List Int) (i6 : Int) (r0 : List Int) : S49_3 g49_7 ((a0, b1, (), i6, ()), (r0, ())) = (
  if decide (i6 < (↑a0.length : Int)) = true then
    (g49_7 ((a0, b1, (), i6, 0, 0, ()), r0, ())).bind fun y =>
      if 0 ≤ IntKind.i64.wrap (y.1.2.2.2.1 + (↑(List.length y.1.2.1) : Int)) then
        if IntKind.i64.wrap (y.1.2.2.2.1 + (↑(List.length y.1.2.1) : Int)) < (↑(List.length y.2.1) : Int) then
          some
            (Sum.inl
              ((y.1.1, y.1.2.1, (), IntKind.i64.wrap (y.1.2.2.2.1 + 1), ()),
                List.set y.2.1 (IntKind.i64.wrap (y.1.2.2.2.1 + (↑(List.length y.1.2.1) : Int))).toNat
                  (IntKind.u32.wrap y.1.2.2.2.2.1),
                ()))
        else none
      else none
  else some (Sum.inr (((), ()), r0, ())) : Option (sh49_3.den ⊕ denX w49_3)) := by kernel_rfl
theorem F49_eq (F50 : (SV.denL ps50) → Option (rs50).den) (g49_3 : sh49_3.den → Option (denX w49_3)) (a0 : List Int) (b1 : List Int) : F49 F50 g49_3 (a0, b1, ()) = (
  if 0 ≤ IntKind.i64.wrap ((↑a0.length : Int) + (↑b1.length : Int)) then
    if
        IntKind.i64.wrap ((↑a0.length : Int) + (↑b1.length : Int)) ≤
          IntKind.i64.wrap ((↑a0.length : Int) + (↑b1.length : Int)) then
      if IntKind.i64.wrap ((↑a0.length : Int) + (↑b1.length : Int)) ≤ ((4294967296 : Nat) : Int) then
        (g49_3
              ((a0, b1, (), 0, ()), List.replicate (IntKind.i64.wrap ((↑a0.length : Int) + (↑b1.length : Int))).toNat 0,
                ())).bind
          fun y => (F50 (y.2.1, ())).bind fun y => some ((y.1.1, ()), ())
      else none
    else none
  else none : Option rs49.den) := by kernel_rfl
theorem S10_12_eq (F47 : (SV.denL ps47) → Option (rs47).den) (base1 : Int) (from6 : Int) (d7 : List UInt8) (i8 : Int) (b0_0 : Bool) (b0_1 : List Int) : S10_12 F47 ((base1, (), from6, d7, i8, ()), ((b0_0, b0_1, ()), ())) = (
  if decide (i8 < (↑d7.length : Int)) = true then
    if 0 ≤ i8 then
      if i8 < (↑d7.length : Int) then
        (F47 ((↑(d7.getD i8.toNat (0 : UInt8)).toNat : Int), ())).bind fun y =>
          if decide (y.1.1 ≥ base1) = true then some (Sum.inr (Sum.inl (((), 19, ()), (false, [], ()), ())))
          else some (Sum.inl ((base1, (), from6, d7, IntKind.i64.wrap (i8 + 1), ()), (b0_0, b0_1, ()), ()))
      else none
    else none
  else some (Sum.inr (Sum.inr ((base1, (), from6, d7, ()), (b0_0, b0_1, ()), ()))) : Option (sh10_12.den ⊕ denX w10_12)) := by kernel_rfl
theorem S10_18_eq (F47 : (SV.denL ps47) → Option (rs47).den) (F48 : (SV.denL ps48) → Option (rs48).den) (F49 : (SV.denL ps49) → Option (rs49).den) (F50 : (SV.denL ps50) → Option (rs50).den) (base1 : Int) (from6 : Int) (d7 : List UInt8) (out9 : List Int) (i10 : Int) (b0_0 : Bool) (b0_1 : List Int) : S10_18 F47 F48 F49 F50 ((base1, (), from6, d7, out9, i10, ()), ((b0_0, b0_1, ()), ())) = (
  if decide (i10 < (↑d7.length : Int)) = true then
    (F49 (out9, [IntKind.u32.wrap base1], ())).bind fun y =>
      if 0 ≤ i10 then
        if i10 < (↑d7.length : Int) then
          (F47 ((↑(d7.getD i10.toNat (0 : UInt8)).toNat : Int), ())).bind fun y_1 =>
            (F50 ([IntKind.u32.wrap y_1.1.1], ())).bind fun y_2 =>
              (F48 (y.1.1, y_2.1.1, ())).bind fun y =>
                if decide ((↑(List.length y.1.1) : Int) > 200) = true then
                  some (Sum.inr (Sum.inl (((), 4, ()), (false, [], ()), ())))
                else some (Sum.inl ((base1, (), from6, d7, y.1.1, IntKind.i64.wrap (i10 + 1), ()), (b0_0, b0_1, ()), ()))
        else none
      else none
  else some (Sum.inr (Sum.inr (((), from6, out9, ()), (b0_0, b0_1, ()), ()))) : Option (sh10_18.den ⊕ denX w10_18)) := by kernel_rfl
theorem F10_eq (F51 : (SV.denL ps51) → Option (rs51).den) (g10_12 : sh10_12.den → Option (denX w10_12)) (g10_18 : sh10_18.den → Option (denX w10_18)) (s0 : List UInt8) (base1 : Int) : F10 F51 g10_12 g10_18 (s0, base1, ()) = (
  if decide (base1 < 2) = true then some (((false, []), 3, ()), ())
  else
    if decide (base1 > 36) = true then some (((false, []), 3, ()), ())
    else
      if decide ((↑s0.length : Int) > 7000) = true then some (((false, []), 20, ()), ())
      else
        if decide ((↑s0.length : Int) > 0) = true then
          if 0 < (↑s0.length : Int) then
            if ((↑(s0.getD 0 (0 : UInt8)).toNat : Int) == 45) = true then
              if 1 ≤ (↑s0.length : Int) then
                if (↑s0.length : Int) ≤ (↑s0.length : Int) then
                  if (List.drop 1 s0 == []) = true then some (((false, []), 19, ()), ())
                  else
                    if 0 < (↑(List.drop 1 s0).length : Int) then
                      if ((↑((List.drop 1 s0).getD 0 (0 : UInt8)).toNat : Int) == 48) = true then
                        if decide ((↑(List.drop 1 s0).length : Int) > 1) = true then some (((false, []), 19, ()), ())
                        else some (((false, []), 19, ()), ())
                      else
                        (g10_12 ((base1, (), 1, List.drop 1 s0, 0, ()), (false, [], ()), ())).bind fun y =>
                          Sum.elim (fun y => some (((y.2.1.1, y.2.1.2.1), y.1.2.1, ()), ()))
                            (fun z =>
                              (g10_18 ((z.1.1, (), z.1.2.2.1, z.1.2.2.2.1, [], 0, ()), (z.2.1.1, z.2.1.2.1, ()), ())).bind
                                fun y =>
                                Sum.elim (fun y => some (((y.2.1.1, y.2.1.2.1), y.1.2.1, ()), ()))
                                  (fun z =>
                                    (F51 (z.1.2.1 == 1, z.1.2.2.1, ())).bind fun y =>
                                      some (((y.1.1.1, y.1.1.2), y.1.2.1, ()), ()))
                                  y)
                            y
                    else none
                else none
              else none
            else
              if (↑s0.length : Int) ≤ (↑s0.length : Int) then
                if (s0 == []) = true then some (((false, []), 19, ()), ())
                else
                  if 0 < (↑s0.length : Int) then
                    if ((↑(s0.getD 0 (0 : UInt8)).toNat : Int) == 48) = true then
                      if decide ((↑s0.length : Int) > 1) = true then some (((false, []), 19, ()), ())
                      else
                        (g10_12 ((base1, (), 0, s0, 0, ()), (false, [], ()), ())).bind fun y =>
                          Sum.elim (fun y => some (((y.2.1.1, y.2.1.2.1), y.1.2.1, ()), ()))
                            (fun z =>
                              (g10_18 ((z.1.1, (), z.1.2.2.1, z.1.2.2.2.1, [], 0, ()), (z.2.1.1, z.2.1.2.1, ()), ())).bind
                                fun y =>
                                Sum.elim (fun y => some (((y.2.1.1, y.2.1.2.1), y.1.2.1, ()), ()))
                                  (fun z =>
                                    (F51 (z.1.2.1 == 1, z.1.2.2.1, ())).bind fun y =>
                                      some (((y.1.1.1, y.1.1.2), y.1.2.1, ()), ()))
                                  y)
                            y
                    else
                      (g10_12 ((base1, (), 0, s0, 0, ()), (false, [], ()), ())).bind fun y =>
                        Sum.elim (fun y => some (((y.2.1.1, y.2.1.2.1), y.1.2.1, ()), ()))
                          (fun z =>
                            (g10_18 ((z.1.1, (), z.1.2.2.1, z.1.2.2.2.1, [], 0, ()), (z.2.1.1, z.2.1.2.1, ()), ())).bind
                              fun y =>
                              Sum.elim (fun y => some (((y.2.1.1, y.2.1.2.1), y.1.2.1, ()), ()))
                                (fun z =>
                                  (F51 (z.1.2.1 == 1, z.1.2.2.1, ())).bind fun y =>
                                    some (((y.1.1.1, y.1.1.2), y.1.2.1, ()), ()))
                                y)
                          y
                  else none
              else none
          else none
        else
          if (↑s0.length : Int) ≤ (↑s0.length : Int) then
            if (s0 == []) = true then some (((false, []), 19, ()), ())
            else
              if 0 < (↑s0.length : Int) then
                if ((↑(s0.getD 0 (0 : UInt8)).toNat : Int) == 48) = true then
                  if decide ((↑s0.length : Int) > 1) = true then some (((false, []), 19, ()), ())
                  else
                    (g10_12 ((base1, (), 0, s0, 0, ()), (false, [], ()), ())).bind fun y =>
                      Sum.elim (fun y => some (((y.2.1.1, y.2.1.2.1), y.1.2.1, ()), ()))
                        (fun z =>
                          (g10_18 ((z.1.1, (), z.1.2.2.1, z.1.2.2.2.1, [], 0, ()), (z.2.1.1, z.2.1.2.1, ()), ())).bind
                            fun y =>
                            Sum.elim (fun y => some (((y.2.1.1, y.2.1.2.1), y.1.2.1, ()), ()))
                              (fun z =>
                                (F51 (z.1.2.1 == 1, z.1.2.2.1, ())).bind fun y =>
                                  some (((y.1.1.1, y.1.1.2), y.1.2.1, ()), ()))
                              y)
                        y
                else
                  (g10_12 ((base1, (), 0, s0, 0, ()), (false, [], ()), ())).bind fun y =>
                    Sum.elim (fun y => some (((y.2.1.1, y.2.1.2.1), y.1.2.1, ()), ()))
                      (fun z =>
                        (g10_18 ((z.1.1, (), z.1.2.2.1, z.1.2.2.2.1, [], 0, ()), (z.2.1.1, z.2.1.2.1, ()), ())).bind
                          fun y =>
                          Sum.elim (fun y => some (((y.2.1.1, y.2.1.2.1), y.1.2.1, ()), ()))
                            (fun z =>
                              (F51 (z.1.2.1 == 1, z.1.2.2.1, ())).bind fun y =>
                                some (((y.1.1.1, y.1.1.2), y.1.2.1, ()), ()))
                            y)
                      y
              else none
          else none : Option rs10.den) := by kernel_rfl
theorem F3_eq (F9 : (SV.denL ps9) → Option (rs9).den) (F10 : (SV.denL ps10) → Option (rs10).den) (F11 : (SV.denL ps11) → Option (rs11).den) (F12 : (SV.denL ps12) → Option (rs12).den) (F13 : (SV.denL ps13) → Option (rs13).den) (s0 : List UInt8) (base1 : Int) : F3 F9 F10 F11 F12 F13 (s0, base1, ()) = (
  if decide ((↑s0.length : Int) > 300) = true then
    if (!(↑s0.length : Int) == 7001) = true then (F9 ()).bind fun y => some ((y.1.1, ()), ())
    else
      (F10 (s0, base1, ())).bind fun y =>
        (F11 (s0, base1, ())).bind fun y_1 =>
          (F13 ((y_1.1.1.1, y_1.1.1.2), ())).bind fun y_2 =>
            (F12 ((y.1.1.1, y.1.1.2), (y_2.1.1.1, y_2.1.1.2), ())).bind fun y_3 =>
              if y_3.1.1 = true then
                if (y_1.1.2.1 == y.1.2.1) = true then (F9 ()).bind fun y => some ((y.1.1, ()), ())
                else some ((false, ()), ())
              else some ((false, ()), ())
  else
    (F10 (s0, base1, ())).bind fun y =>
      (F11 (s0, base1, ())).bind fun y_1 =>
        (F13 ((y_1.1.1.1, y_1.1.1.2), ())).bind fun y_2 =>
          (F12 ((y.1.1.1, y.1.1.2), (y_2.1.1.1, y_2.1.1.2), ())).bind fun y_3 =>
            if y_3.1.1 = true then
              if (y_1.1.2.1 == y.1.2.1) = true then (F9 ()).bind fun y => some ((y.1.1, ()), ())
              else some ((false, ()), ())
            else some ((false, ()), ()) : Option rs3.den) := by kernel_rfl
end Go.Proofs.Rf
