/- Texts put together: EO12, ShAtoi, At12, L12, M1, M2, M3, M4, M5, M6, M7, M8, M9. -/
import Derived.Test.YtdecfjlhidgceaaGreatDoorKe4
import Derived.Shelf.LaysC
import Derived.Shelf.Strconv.AtoiAll
import Derived.Test.YtdecfjlhidgceaaGreatDoorProg
import Derived.Below
import Derived.Laws.RangeAny
import Derived.Laws.RangeString
set_option linter.unusedVariables false
namespace Go.Proofs.Rf
open Go Go.RowKit
def sbO (A B C D : Int) : Operand → Operand
 | .const (.int k v) => if v = -2199023255552 then .const (.int k A) else if v = 2199023255552 then .const (.int k B) else if v = -1099511627776 then .const (.int k C) else if v = 1099511627776 then .const (.int k D) else .const (.int k v)
 | o => o
def sbP (A B C D : Int) (o : Oper) : Oper := { o with op := match o.op with
 | .binOp b t x y u => .binOp b t (sbO A B C D x) (sbO A B C D y) u
 | q => q }
def sbC (A B C D : Int) : Code → Code
 | .region i ops d => .region i (ops.toList.map (sbP A B C D)).toArray d
 | .seq a b => .seq (sbC A B C D a) (sbC A B C D b)
 | .cond c a b => .cond c (sbC A B C D a) (sbC A B C D b)
 | .block i c => .block i (sbC A B C D c)
 | .scope c => .scope (sbC A B C D c)
 | c => c
theorem F47_any (A B C D : Int) (F51 : TF51) (F65 : TF65) (m0_c0 : List ((Int × (Int × (Bool × Bool))) × List (Int × (Int × (Int × Int))))) (m0_c1 : Int) (a1_0 : Int) (a1_1 : Int) (n2 : Int) : runF tb (lookL [(51, mkCall ps51 rs51 F51), (65, mkCall ps65 rs65 F65)]) (upTo Tryz.f47.ntmps) (lookL []) (sbC A B C D (z1N Tryz.f47)) Tryz.f47.results.toList ps47 rs47 ((m0_c0, m0_c1, ()), (a1_0, a1_1), n2, ()) = (
(F65 ((m0_c0, m0_c1, ()), (a1_0, a1_1), ())).bind fun y =>
 if (!y.1.1) = true then (F51 ()).bind fun y => some (((y.1.1.1, y.1.1.2), 14, ()), ())
 else
  (F51 ()).bind fun y =>
   if (a1_0 == y.1.1.1 && (a1_1 == y.1.1.2 && true)) = true then
    if (!n2 == 0) = true then (F51 ()).bind fun y => some (((y.1.1.1, y.1.1.2), 14, ()), ())
    else
     if decide (n2 < A) = true then (F51 ()).bind fun y => some (((y.1.1.1, y.1.1.2), 14, ()), ())
     else
      if decide (n2 > B) = true then (F51 ()).bind fun y => some (((y.1.1.1, y.1.1.2), 14, ()), ())
      else
       (F65 ((m0_c0, m0_c1, ()), (a1_0, IntKind.i64.wrap (a1_1 + n2)), ())).bind fun y =>
        if (!y.1.1) = true then (F51 ()).bind fun y => some (((y.1.1.1, y.1.1.2), 14, ()), ())
        else some (((a1_0, IntKind.i64.wrap (a1_1 + n2)), -1, ()), ())
   else
    if decide (n2 < A) = true then (F51 ()).bind fun y => some (((y.1.1.1, y.1.1.2), 14, ()), ())
    else
     if decide (n2 > B) = true then (F51 ()).bind fun y => some (((y.1.1.1, y.1.1.2), 14, ()), ())
     else
      (F65 ((m0_c0, m0_c1, ()), (a1_0, IntKind.i64.wrap (a1_1 + n2)), ())).bind fun y =>
       if (!y.1.1) = true then (F51 ()).bind fun y => some (((y.1.1.1, y.1.1.2), 14, ()), ())
       else some (((a1_0, IntKind.i64.wrap (a1_1 + n2)), -1, ()), ()) : Option rs47.den) := by kernel_rfl
theorem sb47 : sbC (-2199023255552) 2199023255552 (-1099511627776) 1099511627776 (z1N Tryz.f47) = z1N Tryz.f47 := by kernel_rfl
theorem F47_eq (F51 : TF51) (F65 : TF65) (m0_c0 : List ((Int × (Int × (Bool × Bool))) × List (Int × (Int × (Int × Int))))) (m0_c1 : Int) (a1_0 : Int) (a1_1 : Int) (n2 : Int) : F47 F51 F65 ((m0_c0, m0_c1, ()), (a1_0, a1_1), n2, ()) = (
(F65 ((m0_c0, m0_c1, ()), (a1_0, a1_1), ())).bind fun y =>
 if (!y.1.1) = true then (F51 ()).bind fun y => some (((y.1.1.1, y.1.1.2), 14, ()), ())
 else
  (F51 ()).bind fun y =>
   if (a1_0 == y.1.1.1 && (a1_1 == y.1.1.2 && true)) = true then
    if (!n2 == 0) = true then (F51 ()).bind fun y => some (((y.1.1.1, y.1.1.2), 14, ()), ())
    else
     if decide (n2 < -2199023255552) = true then (F51 ()).bind fun y => some (((y.1.1.1, y.1.1.2), 14, ()), ())
     else
      if decide (n2 > 2199023255552) = true then (F51 ()).bind fun y => some (((y.1.1.1, y.1.1.2), 14, ()), ())
      else
       (F65 ((m0_c0, m0_c1, ()), (a1_0, IntKind.i64.wrap (a1_1 + n2)), ())).bind fun y =>
        if (!y.1.1) = true then (F51 ()).bind fun y => some (((y.1.1.1, y.1.1.2), 14, ()), ())
        else some (((a1_0, IntKind.i64.wrap (a1_1 + n2)), -1, ()), ())
   else
    if decide (n2 < -2199023255552) = true then (F51 ()).bind fun y => some (((y.1.1.1, y.1.1.2), 14, ()), ())
    else
     if decide (n2 > 2199023255552) = true then (F51 ()).bind fun y => some (((y.1.1.1, y.1.1.2), 14, ()), ())
     else
      (F65 ((m0_c0, m0_c1, ()), (a1_0, IntKind.i64.wrap (a1_1 + n2)), ())).bind fun y =>
       if (!y.1.1) = true then (F51 ()).bind fun y => some (((y.1.1.1, y.1.1.2), 14, ()), ())
       else some (((a1_0, IntKind.i64.wrap (a1_1 + n2)), -1, ()), ()) : Option rs47.den) := by
 have h := F47_any (-2199023255552) 2199023255552 (-1099511627776) 1099511627776 F51 F65 m0_c0 m0_c1 a1_0 a1_1 n2
 rw [sb47] at h
 exact h
theorem F83_any (A B C D : Int) (F103 : z4o) (F106 : z4n) (m0_c0 : List ((Int × (Int × (Bool × Bool))) × List (Int × (Int × ((Int × Int) × Int))))) (m0_c1 : Int) (a1_0 : Int) (a1_1 : Int) (n2 : Int) : runF tb (lookL [(103, mkCall ps103 z7F F103), (106, mkCall ps106 z7E F106)]) (upTo Tryz.f83.ntmps) (lookL []) (sbC A B C D (z1N Tryz.f83)) Tryz.f83.results.toList ps83 rs83 ((m0_c0, m0_c1, ()), (a1_0, a1_1), n2, ()) = (
(F106 ((m0_c0, m0_c1, ()), (a1_0, a1_1), ())).bind fun y =>
 if (!y.1.1) = true then (F103 ()).bind fun y => some (((y.1.1.1, y.1.1.2), 14, ()), ())
 else
  if decide (a1_0 < 0) = true then
   if (!n2 == 0) = true then (F103 ()).bind fun y => some (((y.1.1.1, y.1.1.2), 14, ()), ())
   else
    if decide (n2 < A) = true then (F103 ()).bind fun y => some (((y.1.1.1, y.1.1.2), 14, ()), ())
    else
     if decide (n2 > B) = true then (F103 ()).bind fun y => some (((y.1.1.1, y.1.1.2), 14, ()), ())
     else
      if decide (IntKind.i64.wrap (a1_1 + n2) < C) = true then
       (F103 ()).bind fun y => some (((y.1.1.1, y.1.1.2), 14, ()), ())
      else
       if decide (IntKind.i64.wrap (a1_1 + n2) > D) = true then
        (F103 ()).bind fun y => some (((y.1.1.1, y.1.1.2), 14, ()), ())
       else some (((a1_0, IntKind.i64.wrap (a1_1 + n2)), -1, ()), ())
  else
   if decide (n2 < A) = true then (F103 ()).bind fun y => some (((y.1.1.1, y.1.1.2), 14, ()), ())
   else
    if decide (n2 > B) = true then (F103 ()).bind fun y => some (((y.1.1.1, y.1.1.2), 14, ()), ())
    else
     if decide (IntKind.i64.wrap (a1_1 + n2) < C) = true then
      (F103 ()).bind fun y => some (((y.1.1.1, y.1.1.2), 14, ()), ())
     else
      if decide (IntKind.i64.wrap (a1_1 + n2) > D) = true then
       (F103 ()).bind fun y => some (((y.1.1.1, y.1.1.2), 14, ()), ())
      else some (((a1_0, IntKind.i64.wrap (a1_1 + n2)), -1, ()), ()) : Option rs83.den) := by kernel_rfl
theorem sb83 : sbC (-2199023255552) 2199023255552 (-1099511627776) 1099511627776 (z1N Tryz.f83) = z1N Tryz.f83 := by kernel_rfl
theorem F83_eq (F103 : z4o) (F106 : z4n) (m0_c0 : List ((Int × (Int × (Bool × Bool))) × List (Int × (Int × ((Int × Int) × Int))))) (m0_c1 : Int) (a1_0 : Int) (a1_1 : Int) (n2 : Int) : F83 F103 F106 ((m0_c0, m0_c1, ()), (a1_0, a1_1), n2, ()) = (
(F106 ((m0_c0, m0_c1, ()), (a1_0, a1_1), ())).bind fun y =>
 if (!y.1.1) = true then (F103 ()).bind fun y => some (((y.1.1.1, y.1.1.2), 14, ()), ())
 else
  if decide (a1_0 < 0) = true then
   if (!n2 == 0) = true then (F103 ()).bind fun y => some (((y.1.1.1, y.1.1.2), 14, ()), ())
   else
    if decide (n2 < -2199023255552) = true then (F103 ()).bind fun y => some (((y.1.1.1, y.1.1.2), 14, ()), ())
    else
     if decide (n2 > 2199023255552) = true then (F103 ()).bind fun y => some (((y.1.1.1, y.1.1.2), 14, ()), ())
     else
      if decide (IntKind.i64.wrap (a1_1 + n2) < -1099511627776) = true then
       (F103 ()).bind fun y => some (((y.1.1.1, y.1.1.2), 14, ()), ())
      else
       if decide (IntKind.i64.wrap (a1_1 + n2) > 1099511627776) = true then
        (F103 ()).bind fun y => some (((y.1.1.1, y.1.1.2), 14, ()), ())
       else some (((a1_0, IntKind.i64.wrap (a1_1 + n2)), -1, ()), ())
  else
   if decide (n2 < -2199023255552) = true then (F103 ()).bind fun y => some (((y.1.1.1, y.1.1.2), 14, ()), ())
   else
    if decide (n2 > 2199023255552) = true then (F103 ()).bind fun y => some (((y.1.1.1, y.1.1.2), 14, ()), ())
    else
     if decide (IntKind.i64.wrap (a1_1 + n2) < -1099511627776) = true then
      (F103 ()).bind fun y => some (((y.1.1.1, y.1.1.2), 14, ()), ())
     else
      if decide (IntKind.i64.wrap (a1_1 + n2) > 1099511627776) = true then
       (F103 ()).bind fun y => some (((y.1.1.1, y.1.1.2), 14, ()), ())
      else some (((a1_0, IntKind.i64.wrap (a1_1 + n2)), -1, ()), ()) : Option rs83.den) := by
 have h := F83_any (-2199023255552) 2199023255552 (-1099511627776) 1099511627776 F103 F106 m0_c0 m0_c1 a1_0 a1_1 n2
 rw [sb83] at h
 exact h
end Go.Proofs.Rf
namespace Go.Proofs
open Go.Shelf
def Tryz.laysC172_ren : Go.Shelf.Ren := ⟨fun | 172 => 99 | 244 => 123 | 245 => 124 | 247 => 127 | 279 => 128 | 280 => 129 | 281 => 130 | 282 => 131 | 287 => 132 | 316 => 133 | 171 => 135 | 205 => 134 | 321 => 136 | 322 => 137 | 243 => 138 | 246 => 139 | 283 => 140 | 284 => 141 | 285 => 142 | 286 => 143 | 129 => 145 | 317 => 144 | 318 => 146 | 319 => 147 | 320 => 148 | 337 => 149 | 338 => 150 | n => n, fun | 9 => 9 | 3 => 3 | 75 => 166 | 76 => 167 | 4 => 4 | 5 => 5 | 167 => 193 | 37 => 34 | 0 => 0 | 85 => 194 | 2 => 2 | 168 => 196 | 53 => 26 | 175 => 199 | 46 => 183 | 210 => 203 | 127 => 208 | 145 => 211 | 143 => 209 | 21 => 21 | 171 => 213 | 173 => 216 | 212 => 219 | 51 => 188 | 20 => 20 | 213 => 220 | 232 => 223 | 233 => 224 | 80 => 225 | n => n, fun | 15 => 0 | 16 => 1 | 17 => 2 | 18 => 3 | 19 => 4 | n => n⟩
theorem Tryz.laysC172 : Go.Proofs.LaysC.n172 Tryz.prog Tryz.laysC172_ren := {
 mixed := by kernel_rfl
 f129 := Tryz.func145.trans (congrArg some (by kernel_rfl))
 f171 := Tryz.func135.trans (congrArg some (by kernel_rfl))
 f172 := Tryz.func99.trans (congrArg some (by kernel_rfl))
 f205 := Tryz.func134.trans (congrArg some (by kernel_rfl))
 f243 := Tryz.func138.trans (congrArg some (by kernel_rfl))
 f244 := Tryz.func123.trans (congrArg some (by kernel_rfl))
 f245 := Tryz.func124.trans (congrArg some (by kernel_rfl))
 f246 := Tryz.func139.trans (congrArg some (by kernel_rfl))
 f247 := Tryz.func127.trans (congrArg some (by kernel_rfl))
 f279 := Tryz.func128.trans (congrArg some (by kernel_rfl))
 f280 := Tryz.func129.trans (congrArg some (by kernel_rfl))
 f281 := Tryz.func130.trans (congrArg some (by kernel_rfl))
 f282 := Tryz.func131.trans (congrArg some (by kernel_rfl))
 f283 := Tryz.func140.trans (congrArg some (by kernel_rfl))
 f284 := Tryz.func141.trans (congrArg some (by kernel_rfl))
 f285 := Tryz.func142.trans (congrArg some (by kernel_rfl))
 f286 := Tryz.func143.trans (congrArg some (by kernel_rfl))
 f287 := Tryz.func132.trans (congrArg some (by kernel_rfl))
 f316 := Tryz.func133.trans (congrArg some (by kernel_rfl))
 f317 := Tryz.func144.trans (congrArg some (by kernel_rfl))
 f318 := Tryz.func146.trans (congrArg some (by kernel_rfl))
 f319 := Tryz.func147.trans (congrArg some (by kernel_rfl))
 f320 := Tryz.func148.trans (congrArg some (by kernel_rfl))
 f321 := Tryz.func136.trans (congrArg some (by kernel_rfl))
 f322 := Tryz.func137.trans (congrArg some (by kernel_rfl))
 f337 := Tryz.func149.trans (congrArg some (by kernel_rfl))
 f338 := Tryz.func150.trans (congrArg some (by kernel_rfl))
 t0 := Tryz.underlying0
 a0 := Tryz.isAgg0
 z0 := Tryz.sizeOf0
 v0 := Tryz.zeroValue0
 t2 := Tryz.underlying2
 a2 := Tryz.isAgg2
 z2 := Tryz.sizeOf2
 v2 := Tryz.zeroValue2
 t3 := Tryz.underlying3
 a3 := Tryz.isAgg3
 z3 := Tryz.sizeOf3
 v3 := Tryz.zeroValue3
 t4 := Tryz.underlying4
 a4 := Tryz.isAgg4
 z4 := Tryz.sizeOf4
 v4 := Tryz.zeroValue4
 t5 := Tryz.underlying5
 a5 := Tryz.isAgg5
 z5 := Tryz.sizeOf5
 v5 := Tryz.zeroValue5
 t9 := Tryz.underlying9
 a9 := Tryz.isAgg9
 z9 := Tryz.sizeOf9
 v9 := Tryz.zeroValue9
 t20 := Tryz.underlying20
 a20 := Tryz.isAgg20
 z20 := Tryz.sizeOf20
 v20 := Tryz.zeroValue20
 t21 := Tryz.underlying21
 a21 := Tryz.isAgg21
 z21 := Tryz.sizeOf21
 v21 := Tryz.zeroValue21
 t37 := Tryz.underlying34
 a37 := Tryz.isAgg34
 z37 := Tryz.sizeOf34
 v37 := Tryz.zeroValue34
 t46 := Tryz.underlying183
 a46 := Tryz.isAgg183
 z46 := Tryz.sizeOf183
 v46 := Tryz.zeroValue183
 t51 := Tryz.underlying188
 a51 := Tryz.isAgg188
 z51 := Tryz.sizeOf188
 v51 := Tryz.zeroValue188
 t53 := Tryz.underlying26
 a53 := Tryz.isAgg26
 z53 := Tryz.sizeOf26
 v53 := Tryz.zeroValue26
 t75 := Tryz.underlying166
 a75 := Tryz.isAgg166
 z75 := Tryz.sizeOf166
 v75 := Tryz.zeroValue166
 t76 := Tryz.underlying167
 a76 := Tryz.isAgg167
 z76 := Tryz.sizeOf167
 v76 := Tryz.zeroValue167
 t85 := Tryz.underlying194
 a85 := Tryz.isAgg194
 z85 := Tryz.sizeOf194
 v85 := Tryz.zeroValue194
 t127 := Tryz.underlying208
 a127 := Tryz.isAgg208
 z127 := Tryz.sizeOf208
 v127 := Tryz.zeroValue208
 t143 := Tryz.underlying209
 a143 := Tryz.isAgg209
 z143 := Tryz.sizeOf209
 v143 := Tryz.zeroValue209
 t145 := Tryz.underlying211
 a145 := Tryz.isAgg211
 z145 := Tryz.sizeOf211
 v145 := Tryz.zeroValue211
 t167 := Tryz.underlying193
 a167 := Tryz.isAgg193
 z167 := Tryz.sizeOf193
 v167 := Tryz.zeroValue193
 t168 := Tryz.underlying196
 a168 := Tryz.isAgg196
 z168 := Tryz.sizeOf196
 v168 := Tryz.zeroValue196
 t171 := Tryz.underlying213
 a171 := Tryz.isAgg213
 z171 := Tryz.sizeOf213
 v171 := Tryz.zeroValue213
 t173 := Tryz.underlying216
 a173 := Tryz.isAgg216
 z173 := Tryz.sizeOf216
 v173 := Tryz.zeroValue216
 t175 := Tryz.underlying199
 a175 := Tryz.isAgg199
 z175 := Tryz.sizeOf199
 v175 := Tryz.zeroValue199
 t210 := Tryz.underlying203
 a210 := Tryz.isAgg203
 z210 := Tryz.sizeOf203
 v210 := Tryz.zeroValue203
 t212 := Tryz.underlying219
 a212 := Tryz.isAgg219
 z212 := Tryz.sizeOf219
 v212 := Tryz.zeroValue219
 t213 := Tryz.underlying220
 a213 := Tryz.isAgg220
 z213 := Tryz.sizeOf220
 t232 := Tryz.underlying223
 a232 := Tryz.isAgg223
 z232 := Tryz.sizeOf223
 v232 := Tryz.zeroValue223
 t233 := Tryz.underlying224
 a233 := Tryz.isAgg224
 z233 := Tryz.sizeOf224
 v233 := Tryz.zeroValue224
 g15 := by kernel_rfl
 g16 := by kernel_rfl
 g17 := by kernel_rfl
 g18 := by kernel_rfl
 g19 := by kernel_rfl
 t80 := Tryz.underlying225
 a80 := Tryz.isAgg225
 z80 := Tryz.sizeOf225
 v80 := Tryz.zeroValue225
 i0 := by kernel_rfl
 i2 := by kernel_rfl
 i3 := by kernel_rfl
 i4 := by kernel_rfl
 i5 := by kernel_rfl
 i9 := by kernel_rfl
 i20 := by kernel_rfl
 i21 := by kernel_rfl
 i37 := by kernel_rfl
 i46 := by kernel_rfl
 i51 := by kernel_rfl
 i53 := by kernel_rfl
 i75 := by kernel_rfl
 i76 := by kernel_rfl
 i80 := by kernel_rfl
 i85 := by kernel_rfl
 i127 := by kernel_rfl
 i143 := by kernel_rfl
 i145 := by kernel_rfl
 i167 := by kernel_rfl
 i168 := by kernel_rfl
 i171 := by kernel_rfl
 i173 := by kernel_rfl
 i175 := by kernel_rfl
 i210 := by kernel_rfl
 i212 := by kernel_rfl
 i232 := by kernel_rfl
 i233 := by kernel_rfl
 m15 := by kernel_rfl
 m16 := by kernel_rfl
 m17 := by kernel_rfl
 m18 := by kernel_rfl
 m19 := by kernel_rfl
 c0 := by kernel_rfl
 c2 := by kernel_rfl
 c3 := by kernel_rfl
 c4 := by kernel_rfl
 c5 := by kernel_rfl
 c9 := by kernel_rfl
 c20 := by kernel_rfl
 c21 := by kernel_rfl
 c37 := by kernel_rfl
 c46 := by kernel_rfl
 c51 := by kernel_rfl
 c53 := by kernel_rfl
 c75 := by kernel_rfl
 c76 := by kernel_rfl
 c80 := by kernel_rfl
 c85 := by kernel_rfl
 c127 := by kernel_rfl
 c143 := by kernel_rfl
 c145 := by kernel_rfl
 c167 := by kernel_rfl
 c168 := by kernel_rfl
 c171 := by kernel_rfl
 c173 := by kernel_rfl
 c175 := by kernel_rfl
 c210 := by kernel_rfl
 c212 := by kernel_rfl
 c213 := by kernel_rfl
 c232 := by kernel_rfl
 c233 := by kernel_rfl }
open Go.RowKit in
theorem Tryz.strconv_Atoi_ok (s : ByteArray) (hmax : s.size ≤ 9223372036854775806) (v : Int) (h : Lib.atoiAll s.data.toList = .ok v) (w : World) :
  Calls Tryz.prog 99 #[.string s] w fun e w' => e = .returned (.tuple #[.int .i64 v, .nilIface]) ∧ (w' = w ∨ ∃ t, w' = Lib.bytesWorld w 5 t) := Any.strconv_Atoi_ok Tryz.laysC172 s hmax v h w
open Go.RowKit in
theorem Tryz.strconv_Atoi_range (s : ByteArray) (hlim : s.size ≤ 281474976710656) (h : Lib.atoiAll s.data.toList = .range) (ev : Value) (w : World) (hv : w.cell? ⟨1, 0, none⟩ = some ev) (hev : ev = .nilIface ∨ ∃ te pe, ev = .iface te pe) :
  Calls Tryz.prog 99 #[.string s] w fun e w' => ∃ N, e = .returned (.tuple #[.int .i64 (Lib.atoiSat s.data.toList), .iface 196 (.pointer (some ⟨N, 0, none⟩))]) ∧ w.heap.size ≤ N ∧ w'.heap[N]? = some (.cells #[.string ⟨#[65, 116, 111, 105]⟩, .string s, ev] 203 (0, 0)) ∧ Below w.heap.size w w' := Any.strconv_Atoi_range Tryz.laysC172 s hlim h ev w hv hev
end Go.Proofs
namespace Go.Proofs.Rf
open Go Go.RowKit
theorem fold_mono : ∀ (l : List UInt8) (n : Nat), n ≤ l.foldl (fun n c => n * 10 + (c.toNat - 48)) n
 | [], _ => Nat.le_refl _
 | c :: r, n => Nat.le_trans (by omega) (fold_mono r (n * 10 + (c.toNat - 48)))
theorem z5N : ∀ (l : List UInt8) (n : Nat), digs l = true → n < 18446744073709551616 →
  Lib.parseUint10 n l = (if l.foldl (fun n c => n * 10 + (c.toNat - 48)) n < 18446744073709551616 then .ok (l.foldl (fun n c => n * 10 + (c.toNat - 48)) n) else .range)
 | [], n, _, hn => by
  show Lib.NumEnd.ok n = _
  rw [List.foldl_nil, if_pos hn]
 | c :: r, n, hd, hn => by
  unfold digs at hd
  rw [List.all_cons, Bool.and_eq_true, Bool.and_eq_true, Nat.ble_eq, Nat.ble_eq] at hd
  obtain ⟨⟨h1, h2⟩, h3⟩ := hd
  rw [Lib.parseUint10, if_pos ⟨h1, h2⟩, List.foldl_cons]
  have hm := fold_mono r (n * 10 + (c.toNat - 48))
  by_cases h4 : 1844674407370955162 ≤ n
  ·rw [if_pos h4, if_neg (by omega)]
  ·rw [if_neg h4]
   by_cases h5 : 18446744073709551616 ≤ n * 10 + (c.toNat - 48)
   ·rw [if_pos h5, if_neg (by omega)]
   ·rw [if_neg h5]
    exact z5N r _ h3 (by omega)
theorem atoi_digs {s : List UInt8} (h : digs s = true) (h0 : 0 < s.length) :
  Lib.atoiAll s = (if numOf s < 9223372036854775808 then .ok (numOf s : Int) else .range) ∧ (Lib.atoiAll s = .range → Lib.atoiSat s = 9223372036854775807) := by
 cases s with
 | nil => simp at h0
 | cons c r =>
  have hp := z5N (c :: r) 0 h (by omega)
  unfold digs at h
  rw [List.all_cons, Bool.and_eq_true, Bool.and_eq_true, Nat.ble_eq, Nat.ble_eq] at h
  obtain ⟨⟨h1, h2⟩, h3⟩ := h
  have hc : ¬ (c.toNat = 43 ∨ c.toNat = 45) := by omega
  have hc' : ¬ c.toNat = 45 := by omega
  have hm : Lib.parseMag (c :: r) = (if numOf (c :: r) < 18446744073709551616 then .ok (numOf (c :: r)) else .range) := by
   unfold Lib.parseMag
   rw [if_neg (by simp)]
   exact hp
  refine ⟨?_, fun _ => ?_⟩
  ·unfold Lib.atoiAll
   simp only [if_neg hc, hm]
   by_cases h4 : numOf (c :: r) < 18446744073709551616
   ·rw [if_pos h4]
    simp only [hc', not_false_eq_true, true_and, false_and, if_false]
    by_cases h5 : numOf (c :: r) < 9223372036854775808
    ·rw [if_pos h5, if_neg (by omega)]
    ·rw [if_neg h5, if_pos (by omega)]
   ·rw [if_neg h4, if_neg (by omega)]
  ·unfold Lib.atoiSat
   simp [hc']
theorem rel_ic {w : World} {ok : Nat → Prop} {ι : Nat → Option Value} {b : Bool} {v : Value} (h : isIf b v) : RelV w ok ι (.d .ic b) v := by
 simp only [RelV]
 exact ⟨v, rfl, h⟩
theorem call99 : z0a Tryz.prog 99 (mkCall ps99 rs99 F99) := by
 refine ⟨⟨Tryz.f99, Tryz.func99, by kernel_rfl, by kernel_rfl⟩, ?_, ?_⟩
 ·intro X keep w0 w ι C nb args vs e h hv hco hn
  unfold mkCall at hco
  split at hco
  ·rename_i x fz hx
   obtain ⟨y, hy, hco⟩ := z0H hco
   injection hco with hco
   subst hco
   obtain ⟨⟨H1, hFr, E1⟩, hrel⟩ := SV.z0V ps99 C args vs h (z0v.refl C) hv x fz hx
   have hargs : RelL w (okb X w ι (updC C fz)) (fun _ => none) (SV.putL ps99 x) vs := hrel _ _ (fun b hb => hb) (fun b i hb => by simp at hb)
   obtain ⟨s, ⟨⟩⟩ := x
   obtain ⟨v, vr, e1, h1, h2⟩ := z0b.1 hargs
   rw [z0d.1 h2] at e1
   subst e1
   have h1 := z1i.1 h1
   subst h1
   obtain ⟨_, v1, w1, d1, hiv, hgl⟩ := H1.gl.2 1 rfl
   have hcell : w.cell? ⟨1, 0, none⟩ = some v1 := by simp [World.cell?, hgl]
   unfold F99 at hy
   split at hy
   ·rename_i hd
    rw [Bool.and_eq_true, Bool.and_eq_true] at hd
    obtain ⟨⟨hd1, hd2⟩, hd3⟩ := hd
    have hd2 : 0 < s.length := Nat.lt_of_succ_le (by simpa [Nat.blt] using hd2)
    have hd3 : s.length ≤ 1000 := by simpa using hd3
    obtain ⟨a1, a2⟩ := atoi_digs hd1 hd2
    split at hy
    ·rename_i hlt
     injection hy with hy
     subst hy
     rw [if_pos hlt] at a1
     refine (Go.Proofs.Tryz.strconv_Atoi_ok ⟨s.toArray⟩ (by simp [ByteArray.size]; omega) _ (by simpa using a1) w).mono ?_
     rintro en w' ⟨rfl, hb⟩
     have hb : Below w.heap.size w w' := by
      rcases hb with rfl | ⟨t, rfl⟩
      ·exact Below.refl _ _
      ·exact Lib.bytesWorld_below _ _ _
     refine ⟨_, rfl, ?_⟩
     show Out X keep w0 ι C w nb ⟨.tp [.d (.int .i64) (numOf s : Int), .d .ic true], [], []⟩ _ w'
     obtain ⟨g1, g2⟩ := h.step (C' := C) (ι' := ι) (w' := w') (fun _ => False) hb.os hb.tape hb.output hb.size (fun _ _ => rfl) (fun _ _ hk => hk) (fun _ _ => rfl) (fun _ _ hk => hk.elim) (fun _ _ _ hk => hk.elim) (fun b hb' _ => hb.block b hb') (fun _ _ hk => hk.elim)
     refine ⟨ι, g1, g2, ?_, fun _ _ => rfl⟩
     simp only [RelV]
     exact ⟨_, rfl, z0b.2 ⟨_, _, rfl, z0k.2 rfl, z0b.2 ⟨_, _, rfl, rel_ic rfl, z0d.2 rfl⟩⟩⟩
    ·rename_i hlt
     injection hy with hy
     subst hy
     rw [if_neg hlt] at a1
     have a2 := a2 a1
     refine (Go.Proofs.Tryz.strconv_Atoi_range ⟨s.toArray⟩ (by simp [ByteArray.size]; omega) (by simpa using a1) v1 w hcell hiv).mono ?_
     rintro en w' ⟨N, rfl, _, _, hb⟩
     refine ⟨_, rfl, ?_⟩
     show Out X keep w0 ι C w nb ⟨.tp [.d (.int .i64) 9223372036854775807, .d .ic false], [], []⟩ _ w'
     obtain ⟨g1, g2⟩ := h.step (C' := C) (ι' := ι) (w' := w') (fun _ => False) hb.os hb.tape hb.output hb.size (fun _ _ => rfl) (fun _ _ hk => hk) (fun _ _ => rfl) (fun _ _ hk => hk.elim) (fun _ _ _ hk => hk.elim) (fun b hb' _ => hb.block b hb') (fun _ _ hk => hk.elim)
     refine ⟨ι, g1, g2, ?_, fun _ _ => rfl⟩
     simp only [RelV]
     have a3 : Lib.atoiSat (ByteArray.mk s.toArray).data.toList = 9223372036854775807 := by simpa using a2
     rw [a3]
     exact ⟨_, rfl, z0b.2 ⟨_, _, rfl, z0k.2 rfl, z0b.2 ⟨_, _, rfl, rel_ic ⟨_, _, rfl⟩, z0d.2 rfl⟩⟩⟩
   ·cases hy
  ·cases hco
 ·intro args C nb R K
  unfold mkCall
  split
  ·rename_i x fz hx
   cases F99 x <;> rfl
  ·rfl
end Go.Proofs.Rf
set_option linter.unusedVariables false
namespace Go.Proofs.Rf
open Go Go.RowKit
noncomputable def Lg8_4 : z7C.den → Option (denX w8_4) := limL (S8_4)
noncomputable def L8 : TF8 := F8 Lg8_4
theorem okL8 : z0a Tryz.prog 8 (mkCall ps8 rs8 L8) := call8 (z0T _)
noncomputable def L12 : TF12 := F12
theorem okL12 : z0a Tryz.prog 12 (mkCall ps12 rs12 L12) := call12
noncomputable def Lg48_2 : z3V.den → Option (denX w48_2) := limL (S48_2)
noncomputable def L48 : TF48 := F48 Lg48_2
theorem okL48 : z0a Tryz.prog 48 (mkCall ps48 rs48 L48) := call48 (z0T _)
noncomputable def L49 : TF49 := F49
theorem okL49 : z0a Tryz.prog 49 (mkCall ps49 rs49 L49) := call49
noncomputable def Lg115_2 : z2I.den → Option (denX z4q) := limL (S115_2)
noncomputable def L115 : TF115 := F115 Lg115_2
theorem okL115 : z0a Tryz.prog 115 (mkCall ps115 rs115 L115) := call115 (z0T _)
noncomputable def L90 : TF90 := F90 L115
theorem okL90 : z0a Tryz.prog 90 (mkCall ps90 rs90 L90) := call90 okL115
noncomputable def L50 : TF50 := F50 L90
theorem okL50 : z0a Tryz.prog 50 (mkCall ps50 rs50 L50) := call50 okL90
noncomputable def L51 : TF51 := F51
theorem z5q : z0a Tryz.prog 51 (mkCall ps51 rs51 L51) := call51
noncomputable def L68 : TF68 := F68
theorem okL68 : z0a Tryz.prog 68 (mkCall ps68 rs68 L68) := call68
noncomputable def L52 : TF52 := F52 L51 L68
theorem okL52 : z0a Tryz.prog 52 (mkCallB z6C rs52 m52 1 L52) := call52 z5q okL68
noncomputable def L14 : TF14 := F14 L48 L49 L50 L51 L52
theorem okL14 : z0a Tryz.prog 14 (mkCallB z4J rs14 m14 1 L14) := call14 okL48 okL49 okL50 z5q okL52
noncomputable def L98 : TF98 := F98
theorem okL98 : z0a Tryz.prog 98 (mkCall ps98 rs98 L98) := call98
abbrev L99 : TF99 := F99
theorem okL99 : z0a Tryz.prog 99 (mkCall ps99 rs99 L99) := call99
noncomputable def Lg69_7 : z3Q.den → Option (denX w69_7) := limL (S69_7)
noncomputable def L69 : TF69 := F69 L98 L99 Lg69_7
theorem okL69 : z0a Tryz.prog 69 (mkCall ps69 rs69 L69) := call69 okL98 okL99 (z0T _)
noncomputable def L28 : TF28 := F28 L69
theorem okL28 : z0a Tryz.prog 28 (mkCall ps28 rs28 L28) := call28 okL69
noncomputable def Lg70_2 : z4w.den → Option (denX w70_2) := limL (S70_2)
noncomputable def L70 : TF70 := F70 Lg70_2
theorem okL70 : z0a Tryz.prog 70 (mkCall ps70 rs70 L70) := call70 (z0T _)
noncomputable def L54 : TF54 := F54 L28 L70
theorem okL54 : z0a Tryz.prog 54 (mkCall ps54 rs54 L54) := call54 okL28 okL70
noncomputable def L92 : TF92 := F92
theorem okL92 : z0a Tryz.prog 92 (mkCall ps92 rs92 L92) := call92
noncomputable def L65 : TF65 := F65 L51
theorem okL65 : z0a Tryz.prog 65 (mkCall ps65 rs65 L65) := call65 z5q
noncomputable def L117 : TF117 := F117 L51 L65
theorem okL117 : z0a Tryz.prog 117 (mkCall ps117 rs117 L117) := call117 z5q okL65
noncomputable def L118 : TF118 := F118
theorem okL118 : z0a Tryz.prog 118 (mkCall ps118 rs118 L118) := call118
noncomputable def L119 : TF119 := F119
theorem okL119 : z0a Tryz.prog 119 (mkCall ps119 rs119 L119) := call119
noncomputable def L120 : TF120 := F120
theorem okL120 : z0a Tryz.prog 120 (mkCall ps120 rs120 L120) := call120
noncomputable def Lg55_4 : z3U.den → Option (denX w55_4) := limL (S55_4 L117 L118 L119 L120)
noncomputable def L55 : TF55 := F55 L92 Lg55_4
theorem okL55 : z0a Tryz.prog 55 (mkCall ps55 rs55 L55) := call55 okL117 okL118 okL119 okL120 okL92 (z0T _)
noncomputable def L96 : TF96 := F96
theorem okL96 : z0a Tryz.prog 96 (mkCall ps96 rs96 L96) := call96
noncomputable def LD121 : z7J := colK (B121) (Y121) 20
theorem okLI121 : z5f Tryz.prog 121 z4m (z7j LD121) := it121 (coll_colK _ _ _)
noncomputable def Lg93_5 : List z2W → z2s.den → Option (z2s.den ⊕ denX w93_5) := foldR (S93_5 L51)
noncomputable def L93 : TF93 := F93 L51 L96 LD121 Lg93_5
theorem okL93 : z0a Tryz.prog 93 (mkCall ps93 rs93 L93) := call93 okLI121 z5q okL96 rfl
noncomputable def L94 : TF94 := F94 L69
theorem okL94 : z0a Tryz.prog 94 (mkCall ps94 rs94 L94) := call94 okL69
noncomputable def Lg56_9 : z3T.den → Option (denX w56_9) := limL (S56_9)
noncomputable def L56 : TF56 := F56 L51 L93 L94 Lg56_9
theorem okL56 : z0a Tryz.prog 56 (mkCall ps56 rs56 L56) := call56 z5q okL93 okL94 (z0T _)
noncomputable def L57v : TF57v := F57v
theorem okL57v : z0a Tryz.prog 57 (mkCall z6F z5T L57v) := call57v
noncomputable def L16 : TF16 := F16 L51 L54 L55 L56 L57v
theorem okL16 : z0a Tryz.prog 16 (mkCall ps16 rs16 L16) := call16 z5q okL54 okL55 okL56 okL57v
noncomputable def L57 : TF57 := F57
theorem okL57 : z0a Tryz.prog 57 (mkCallB z4G rs57 m57 1 L57) := call57
noncomputable def L95 : TF95 := F95 L65 L94
theorem okL95 : z0a Tryz.prog 95 (mkCall ps95 rs95 L95) := call95 okL65 okL94
noncomputable def L126 : TF126 := F126
theorem okL126 : z0a Tryz.prog 126 (mkCall ps126 rs126 L126) := call126
noncomputable def L122 : TF122 := F122 L126
theorem okL122 : z0a Tryz.prog 122 (mkCall ps122 rs122 L122) := call122 okL126
noncomputable def Lg97_8 : z4t.den → Option (denX w97_8) := limL (S97_8)
noncomputable def L97 : TF97 := F97 L122 Lg97_8
theorem okL97 : z0a Tryz.prog 97 (mkCall ps97 rs97 L97) := call97 okL122 (z0T _)
noncomputable def Lg58_10 : List z2W → z1H.den → Option (z1H.den ⊕ denX z5G) := foldR (S58_10)
noncomputable def Lg58_3 : z3S.den → Option (denX w58_3) := limL (S58_3)
noncomputable def L58 : TF58 := F58 L51 L95 L96 L97 LD121 Lg58_10 Lg58_3
theorem okL58 : z0a Tryz.prog 58 (mkCall ps58 rs58 L58) := call58 okLI121 z5q okL95 okL96 okL97 rfl (z0T _)
noncomputable def L17 : TF17 := F17 L54 L55 L57 L58
theorem okL17 : z0a Tryz.prog 17 (mkCallB z4I rs17 m17 1 L17) := call17 okL54 okL55 okL57 okL58
noncomputable def Lg59_2 : z3R.den → Option (denX w59_2) := limL (S59_2)
noncomputable def L59 : TF59 := F59 Lg59_2
theorem okL59 : z0a Tryz.prog 59 (mkCall ps59 rs59 L59) := call59 (z0T _)
noncomputable def L60 : TF60 := F60
theorem okL60 : z0a Tryz.prog 60 (mkCall ps60 rs60 L60) := call60
noncomputable def L19 : TF19 := F19 L55 L57 L59 L60
theorem okL19 : z0a Tryz.prog 19 (mkCallB z4H rs19 m19 1 L19) := call19 okL55 okL57 okL59 okL60
noncomputable def L66 : TF66 := F66 L51
theorem okL66 : z0a Tryz.prog 66 (mkCall ps66 rs66 L66) := call66 z5q
noncomputable def L25 : TF25 := F25 L51 L65 L66
theorem okL25 : z0a Tryz.prog 25 (mkCall ps25 rs25 L25) := call25 z5q okL65 okL66
noncomputable def L67 : TF67 := F67 L68
theorem okL67 : z0a Tryz.prog 67 (mkCallB z6B rs67 m67 1 L67) := call67 okL68
noncomputable def L26 : TF26 := F26 L51 L65 L67
theorem okL26 : z0a Tryz.prog 26 (mkCallB z6E rs26 m26 1 L26) := call26 z5q okL65 okL67
noncomputable def L27 : TF27 := F27 L50 L51 L52 L68
theorem okL27 : z0a Tryz.prog 27 (mkCallB z6D rs27 m27 1 L27) := call27 okL50 z5q okL52 okL68
noncomputable def L39 : TF39 := F39
theorem okL39 : z0a Tryz.prog 39 (mkCall ps39 rs39 L39) := call39
noncomputable def L18 : TF18 := F18 L39
theorem okL18 : z0a Tryz.prog 18 (mkCall ps18 rs18 L18) := call18 okL39
noncomputable def L20 : TF20 := F20 L55 L57
theorem okL20 : z0a Tryz.prog 20 (mkCallB z7H rs20 m20 1 L20) := call20 okL55 okL57
noncomputable def L38 : TF38 := F38
theorem okL38 : z0a Tryz.prog 38 (mkCall ps38 rs38 L38) := call38
noncomputable def L84 : TF84 := F84 L49
theorem okL84 : z0a Tryz.prog 84 (mkCall ps84 rs84 L84) := call84 okL49
noncomputable def L40 : TF40 := F40 L67 L84
theorem okL40 : z0a Tryz.prog 40 (mkCallB psh40 rs40 m40 1 L40) := call40 okL67 okL84
noncomputable def L41 : TF41 := F41 L38
theorem okL41 : z0a Tryz.prog 41 (mkCall ps41 rs41 L41) := call41 okL38
noncomputable def L86 : TF86 := F86
theorem okL86 : z0a Tryz.prog 86 (mkCall ps86 rs86 L86) := call86
noncomputable def Lg114_2 : z2Z.den → Option (denX z5H) := limL (S114_2 L86)
noncomputable def L114 : TF114 := F114 Lg114_2
theorem okL114 : z0a Tryz.prog 114 (mkCall ps114 rs114 L114) := call114 okL86 (z0T _)
noncomputable def L85 : TF85 := F85 L114
theorem okL85 : z0a Tryz.prog 85 (mkCall ps85 rs85 L85) := call85 okL114
noncomputable def L88 : TF88 := F88
theorem okL88 : z0a Tryz.prog 88 (mkCall ps88 rs88 L88) := call88
noncomputable def Lg87_3 : z4v.den → Option (denX w87_3) := limL (S87_3 L88)
noncomputable def L87 : TF87 := F87 Lg87_3
theorem okL87 : z0a Tryz.prog 87 (mkCall ps87 rs87 L87) := call87 okL88 (z0T _)
noncomputable def L42 : TF42 := F42 L55 L57v L85 L87
theorem okL42 : z0a Tryz.prog 42 (mkCall ps42 rs42 L42) := call42 okL55 okL57v okL85 okL87
noncomputable def L89 : TF89 := F89 L84
theorem okL89 : z0a Tryz.prog 89 (mkCallB z7G rs89 m89 1 L89) := call89 okL84
noncomputable def Lg43_6 : z4y.den → Option (denX w43_6) := limL (S43_6)
noncomputable def L43 : TF43 := F43 L48 L49 L89 Lg43_6
theorem okL43 : z0a Tryz.prog 43 (mkCallB psh43 rs43 m43 1 L43) := call43 okL48 okL49 okL89 (z0T _)
noncomputable def L44 : TF44 := F44
theorem okL44 : z0a Tryz.prog 44 (mkCall ps44 rs44 L44) := call44
noncomputable def L45 : TF45 := F45
theorem okL45 : z0a Tryz.prog 45 (mkCall ps45 rs45 L45) := call45
noncomputable def L46 : TF46 := F46 L48 L49 L58 L65 L89
theorem okL46 : z0a Tryz.prog 46 (mkCallB psh46 rs46 m46 1 L46) := call46 okL48 okL49 okL58 okL65 okL89
noncomputable def L47 : TF47 := F47 L51 L65
theorem okL47 : z0a Tryz.prog 47 (mkCall ps47 rs47 L47) := call47 z5q okL65
noncomputable def L13 : TF13 := F13 L14 L16 L17 L18 L19 L20 L25 L26 L27 L38 L39 L40 L41 L42 L43 L44 L45 L46 L47
theorem okL13 : z0a Tryz.prog 13 (mkCallB psh13 rs13 m13 1 L13) := call13 okL14 okL16 okL17 okL18 okL19 okL20 okL25 okL26 okL27 okL38 okL39 okL40 okL41 okL42 okL43 okL44 okL45 okL46 okL47
noncomputable def Lg100_2 : z3r.den → Option (denX z6n) := limL (S100_2)
noncomputable def L100 : TF100 := F100 Lg100_2
noncomputable def L101 : TF101 := F101
noncomputable def L102 : TF102 := F102
noncomputable def L103 : z4o := F103
noncomputable def L105 : TF105 := F105
noncomputable def L104 : TF104 := F104 L105
noncomputable def L71 : TF71 := F71 L100 L101 L102 L103 L104
noncomputable def L72 : TF72 := F72 L102 L103 L104 L105
noncomputable def L106 : z4n := F106
noncomputable def L107 : TF107 := F107 L105
noncomputable def L73 : TF73 := F73 L106 L107
noncomputable def L108 : TF108 := F108 L101
noncomputable def L74 : TF74 := F74 L107 L108
noncomputable def L116 : TF116 := F116
theorem okL116 : z0a Tryz.prog 116 (mkCall ps116 rs116 L116) := call116
noncomputable def Lg91_5 : z4u.den → Option (denX w91_5) := limL (S91_5 L116)
noncomputable def L91 : TF91 := F91 Lg91_5
theorem okL91 : z0a Tryz.prog 91 (mkCall ps91 rs91 L91) := call91 okL116 (z0T _)
noncomputable def L53 : TF53 := F53 L91
theorem okL53 : z0a Tryz.prog 53 (mkCall ps53 rs53 L53) := call53 okL91
noncomputable def L15 : TF15 := F15 L53
theorem okL15 : z0a Tryz.prog 15 (mkCall ps15 rs15 L15) := call15 okL53
noncomputable def Lg109_5 : z4g.den → Option (denX z7O) := limL (S109_5)
noncomputable def L109 : TF109 := F109 L15 Lg109_5
noncomputable def L110 : z5X := F110 L106
noncomputable def L36 : TF36 := F36
theorem okL36 : z0a Tryz.prog 36 (mkCall ps36 rs36 L36) := call36
noncomputable def L37 : TF37 := F37 L53
theorem okL37 : z0a Tryz.prog 37 (mkCall ps37 rs37 L37) := call37 okL53
noncomputable def Lg111_4 : z3q.den → Option (denX z6m) := limL (S111_4)
noncomputable def z6i : z2B.den → Option (denX z3Y) := limL (S111_15 L103)
noncomputable def L111 : TF111 := F111 L36 L37 L103 Lg111_4 z6i
noncomputable def L75 : TF75 := F75 L15 L103 L109 L110 L111
noncomputable def Lg112_4 : z3p.den → Option (denX z6l) := limL (S112_4 L36 L37)
noncomputable def L112 : TF112 := F112 L15 Lg112_4
noncomputable def L76 : TF76 := F76 L15 L106 L109 L110 L112
noncomputable def L77 : TF77 := F77 L110
noncomputable def Lg78_5 : z5K.den → Option (denX w78_5) := limL (S78_5)
noncomputable def L78 : TF78 := F78 L110 Lg78_5
noncomputable def Lg79_8 : z5J.den → Option (denX w79_8) := limL (S79_8)
noncomputable def L79 : TF79 := F79 L110 Lg79_8
noncomputable def Lg80_10 : z3o.den → Option (denX z6k) := limL (S80_10)
noncomputable def L80 : TF80 := F80 L108 Lg80_10
noncomputable def L81 : TF81 := F81 L106 L108 L112
noncomputable def L113 : TF113 := F113
noncomputable def L82 : TF82 := F82 L106 L113
noncomputable def L83 : TF83 := F83 L103 L106
noncomputable def L31 : TF31 := F31 L71 L72 L73 L74 L75 L76 L77 L78 L79 L80 L81 L82 L83
noncomputable def L11 : TF11 := F11 L15 L36 L37
theorem okL11 : z0a Tryz.prog 11 (mkCall ps11 rs11 L11) := call11 okL15 okL36 okL37
noncomputable def Lg6_5 : z7D.den → Option (denX w6_5) := limL (S6_5 L13)
noncomputable def Lg6_28 : z4x.den → Option (denX w6_28) := limL (S6_28)
end Go.Proofs.Rf
namespace Go.Proofs.Rf
open Go Go.RowKit
theorem z0P {A B : Type} {f : A → Option (A ⊕ B)} (μ : A → Nat) (I : A → Prop) (Q : B → Prop) (h : ∀ x, I x → (∃ y, f x = some (.inl y) ∧ I y ∧ μ y < μ x) ∨ ∃ z, f x = some (.inr z) ∧ Q z) : ∀ x, I x → ∃ z, limL f x = some z ∧ Q z := by
 have key : ∀ n x, μ x = n → I x → ∃ z, limL f x = some z ∧ Q z := by
  intro n
  induction n using Nat.strongRecOn with
  | _ n ih =>
   intro x hx hI
   rw [limL_eq]
   rcases h x hI with ⟨y, h1, h2, h3⟩ | ⟨z, h1, h2⟩
   ·rw [h1]
    exact ih (μ y) (by omega) y rfl h2
   ·rw [h1]
    exact ⟨z, rfl, h2⟩
 exact fun x hI => key _ x rfl hI
theorem w8 {n : Int} (h0 : 0 ≤ n) (h1 : n < 256) : IntKind.u8.wrap n = n := by
 simp [IntKind.wrap, IntKind.bits, IntKind.signed]
 omega
theorem wi {n : Int} (h0 : -9223372036854775808 ≤ n) (h1 : n < 9223372036854775808) : IntKind.i64.wrap n = n := by
 simp [IntKind.wrap, IntKind.bits, IntKind.signed]
 omega
theorem z1s {A : Type} {l : List A} {k : Nat} (d : A) (h : k < l.length) : l.getD k d = l[k] := by simp [List.getD, h]
theorem z4s {A : Type} {l : List A} {d : A} {k : Nat} (h : k < l.length) : l.take k ++ [l.getD k d] = l.take (k + 1) := by
 rw [z1s d h, List.take_append_getElem h]
theorem getD_drop8 {s : List UInt8} {i : Nat} (h : i < s.length) : s.drop i = s.getD i 0 :: s.drop (i + 1) := by
 rw [List.drop_eq_getElem_cons h, List.getD_eq_getElem?_getD, List.getElem?_eq_getElem h]
 rfl
theorem decode_lo {s : List UInt8} {p : Nat} (hp : p < s.length) (h : (s.getD p 0).toNat < 128) : Utf8.decode ⟨s.toArray⟩ p = ((s.getD p 0).toNat, 1) := by
 have hp' : p < (⟨s.toArray⟩ : ByteArray).size := by simpa [ByteArray.size] using hp
 have e : (⟨s.toArray⟩ : ByteArray)[p]'hp' = s.getD p 0 := by
  rw [List.getD_eq_getElem?_getD, List.getElem?_eq_getElem hp]
  rfl
 have := decode_ascii ⟨s.toArray⟩ p hp' (by rw [e]; exact h)
 rw [e] at this
 exact this
theorem decode_hi {s : List UInt8} {p : Nat} (hp : p < s.length) (h : 128 ≤ (s.getD p 0).toNat) : 128 ≤ (Utf8.decode ⟨s.toArray⟩ p).1 := by
 have hp' : p < (⟨s.toArray⟩ : ByteArray).size := by simpa [ByteArray.size] using hp
 have e : (⟨s.toArray⟩ : ByteArray)[p]'hp' = s.getD p 0 := by
  rw [List.getD_eq_getElem?_getD, List.getElem?_eq_getElem hp]
  rfl
 exact (decode_high ⟨s.toArray⟩ p hp' (by rw [e]; exact h)).1
def isd (c : UInt8) : Bool := Nat.ble 48 c.toNat && Nat.ble c.toNat 57
theorem z4l {c : UInt8} : isd c = true ↔ 48 ≤ c.toNat ∧ c.toNat ≤ 57 := by simp [isd]
theorem z6f (s : List UInt8) : digs s = s.all isd := rfl
theorem all_drop {s : List UInt8} {p : Nat} (hp : p < s.length) : (s.drop p).all isd = (isd (s.getD p 0) && (s.drop (p + 1)).all isd) := by
 rw [getD_drop8 hp, List.all_cons]
theorem Lg69_7_val (t s : List UInt8) : Lg69_7 ((t, (), ()), ((s, 0), ())) = some (if digs s = true then .inr ((t, ()), ()) else .inl ((0, false, ()), ())) := by
 obtain ⟨z, h1, rfl⟩ := z0P (f := S69_7) (fun x => s.length - x.2.1.2)
  (fun x => ∃ p : Nat, x = ((t, (), ()), ((s, p), ())) ∧ p ≤ s.length ∧ s.all isd = (s.drop p).all isd)
  (fun z => z = (if digs s = true then .inr ((t, ()), ()) else .inl ((0, false, ()), ()))) (by
  rintro x ⟨p, rfl, hp, hall⟩
  rw [z6f]
  by_cases hlt : p < s.length
  ·have e := S69_7_eq t s p
   rw [if_pos hlt] at e
   rw [all_drop hlt] at hall
   by_cases hc : (s.getD p 0).toNat < 128
   ·have hd : Utf8.decode { data := { toList := s } } p = _ := decode_lo hlt hc
    rw [hd] at e
    by_cases hb : isd (s.getD p 0) = true
    ·left
     have hb' := z4l.1 hb
     rw [if_neg (by rw [decide_eq_true_eq]; omega), if_neg (by rw [decide_eq_true_eq]; omega)] at e
     refine ⟨_, e, ⟨p + 1, rfl, by omega, by rw [hall, hb, Bool.true_and]⟩, by show s.length - (p + 1) < s.length - p; omega⟩
    ·right
     have hb' : ¬ (48 ≤ (s.getD p 0).toNat ∧ (s.getD p 0).toNat ≤ 57) := fun h => hb (z4l.2 h)
     rw [Bool.eq_false_iff.2 hb, Bool.false_and] at hall
     rw [hall]
     by_cases h1 : (s.getD p 0).toNat < 48
     ·rw [if_pos (by rw [decide_eq_true_eq]; omega)] at e
      exact ⟨_, e, rfl⟩
     ·rw [if_neg (by rw [decide_eq_true_eq]; omega), if_pos (by rw [decide_eq_true_eq]; omega)] at e
      exact ⟨_, e, rfl⟩
   ·right
    have hh : 128 ≤ (Utf8.decode { data := { toList := s } } p).1 := decode_hi hlt (by omega)
    have hb : isd (s.getD p 0) = false := by rw [Bool.eq_false_iff]; exact fun h => by have := z4l.1 h; omega
    rw [hb, Bool.false_and] at hall
    rw [hall]
    rw [if_neg (by rw [decide_eq_true_eq]; omega), if_pos (by rw [decide_eq_true_eq]; omega)] at e
    exact ⟨_, e, rfl⟩
  ·right
   refine ⟨_, by rw [S69_7_eq]; exact if_neg hlt, ?_⟩
   rw [hall, List.drop_of_length_le (by omega)]
   rfl) ((t, (), ()), ((s, 0), ())) ⟨0, rfl, by omega, by rw [List.drop_zero]⟩
 exact h1
theorem numOf_snoc (l : List UInt8) (c : UInt8) : numOf (l ++ [c]) = numOf l * 10 + (c.toNat - 48) := by
 simp [numOf, List.foldl_append]
theorem numOf_take {s : List UInt8} {i : Nat} (h : i < s.length) : numOf (s.take (i + 1)) = numOf (s.take i) * 10 + ((s.getD i 0).toNat - 48) := by
 rw [← z4s (d := (0 : UInt8)) h, numOf_snoc]
theorem fold_lt : ∀ (l : List UInt8) (n : Nat), l.all isd = true → l.foldl (fun n c => n * 10 + (c.toNat - 48)) n < (n + 1) * 10 ^ l.length
 | [], n, _ => by simp
 | c :: r, n, h => by
  rw [List.all_cons, Bool.and_eq_true] at h
  have hc := z4l.1 h.1
  have h1 := fold_lt r (n * 10 + (c.toNat - 48)) h.2
  rw [List.foldl_cons, List.length_cons, Nat.pow_succ]
  have h2 : (n * 10 + (c.toNat - 48) + 1) * 10 ^ r.length ≤ ((n + 1) * 10) * 10 ^ r.length := Nat.mul_le_mul_right _ (by omega)
  rw [Nat.mul_assoc, Nat.mul_comm 10] at h2
  exact Nat.lt_of_lt_of_le h1 h2
theorem numOf_lt {l : List UInt8} (h : l.all isd = true) : numOf l < 10 ^ l.length := by
 have := fold_lt l 0 h
 simpa [numOf] using this
theorem fold_ge : ∀ (l : List UInt8) (n : Nat), n * 10 ^ l.length ≤ l.foldl (fun n c => n * 10 + (c.toNat - 48)) n
 | [], n => by simp
 | c :: r, n => by
  have h1 := fold_ge r (n * 10 + (c.toNat - 48))
  rw [List.foldl_cons, List.length_cons, Nat.pow_succ]
  have h2 : (n * 10) * 10 ^ r.length ≤ (n * 10 + (c.toNat - 48)) * 10 ^ r.length := Nat.mul_le_mul_right _ (by omega)
  rw [Nat.mul_assoc, Nat.mul_comm 10] at h2
  exact Nat.le_trans h2 h1
theorem numOf_ge {c : UInt8} {r : List UInt8} (h : 49 ≤ c.toNat) : 10 ^ r.length ≤ numOf (c :: r) := by
 have h1 := fold_ge r (c.toNat - 48)
 have h2 : numOf (c :: r) = r.foldl (fun n c => n * 10 + (c.toNat - 48)) (c.toNat - 48) := by simp [numOf]
 rw [h2]
 have h3 : 1 * 10 ^ r.length ≤ (c.toNat - 48) * 10 ^ r.length := Nat.mul_le_mul_right _ (by omega)
 omega
def nm (s : List UInt8) : Bool := digs s && !(s == []) && (s == [48] || !(s.getD 0 0 == 48))
theorem L116_val (c : UInt8) : L116 ((c.toNat : Int), ()) = some ((isd c, ()), ()) := by
 refine (F116_eq _).trans ?_
 unfold isd
 by_cases h : 48 ≤ c.toNat
 ·rw [if_pos (by simp; omega), show Nat.ble 48 c.toNat = true by simpa using h, Bool.true_and]
  congr 3
  rw [Bool.eq_iff_iff, decide_eq_true_eq, Nat.ble_eq]
  omega
 ·rw [if_neg (by simp; omega), show Nat.ble 48 c.toNat = false by rw [Bool.eq_false_iff]; simpa using h, Bool.false_and]
theorem Lg91_5_val {s : List UInt8} (hl : s.length ≤ 15) : Lg91_5 ((s, 0, 0, ()), ()) = some (if digs s = true then .inr (((numOf s : Int), ()), ()) else .inl ((0, false, ()), ())) := by
 obtain ⟨z, h1, rfl⟩ := z0P (f := S91_5 L116) (fun x => s.length - x.1.2.2.1.toNat)
  (fun x => ∃ i : Nat, x = ((s, (numOf (s.take i) : Int), (i : Int), ()), ()) ∧ i ≤ s.length ∧ (s.take i).all isd = true ∧ s.all isd = (s.drop i).all isd)
  (fun z => z = (if digs s = true then .inr (((numOf s : Int), ()), ()) else .inl ((0, false, ()), ()))) (by
  rintro x ⟨i, rfl, hi, hD, hall⟩
  rw [S91_5_eq, z6f]
  by_cases hlt : i < s.length
  ·rw [all_drop hlt] at hall
   rw [if_pos (decide_eq_true (by omega)), if_pos (by omega), if_pos (by omega), Int.toNat_natCast, L116_val]
   simp only [Option.bind_some]
   by_cases hb : isd (s.getD i 0) = true
   ·left
    have hc := z4l.1 hb
    have hlt8 := numOf_lt hD
    rw [List.length_take, Nat.min_eq_left hi] at hlt8
    have hp : 10 ^ i ≤ 10 ^ 14 := Nat.pow_le_pow_right (by decide) (by omega)
    have e1 : IntKind.u8.wrap (((s.getD i 0).toNat : Int) - 48) = (((s.getD i 0).toNat - 48 : Nat) : Int) := by rw [w8 (by omega) (by omega)]; omega
    have e3 : IntKind.i64.wrap (10 * (numOf (s.take i) : Int)) = 10 * (numOf (s.take i) : Int) := wi (by omega) (by omega)
    have e4 : IntKind.i64.wrap (10 * (numOf (s.take i) : Int) + (((s.getD i 0).toNat - 48 : Nat) : Int)) = (numOf (s.take (i + 1)) : Int) := by
     rw [numOf_take hlt, wi (by omega) (by omega)]; omega
    have e5 : IntKind.i64.wrap ((((s.getD i 0).toNat - 48 : Nat) : Int)) = (((s.getD i 0).toNat - 48 : Nat) : Int) := wi (by omega) (by omega)
    have e6 : IntKind.i64.wrap ((i : Int) + 1) = ((i + 1 : Nat) : Int) := by rw [wi (by omega) (by omega)]; omega
    rw [if_neg (by rw [hb]; decide), if_pos (by omega), if_pos (by omega), e1, e3, e5, e4, e6]
    refine ⟨_, rfl, ⟨i + 1, rfl, by omega, ?_, by rw [hall, hb, Bool.true_and]⟩, by simp only [Int.toNat_natCast]; omega⟩
    rw [← z4s (d := (0 : UInt8)) hlt, List.all_append, hD, Bool.true_and, List.all_cons, hb]
    rfl
   ·right
    rw [Bool.eq_false_iff.2 hb, Bool.false_and] at hall
    rw [hall, if_pos (by simpa using hb)]
    exact ⟨_, rfl, rfl⟩
  ·right
   refine ⟨_, if_neg (by simp; omega), ?_⟩
   rw [hall, List.drop_of_length_le (by omega), List.take_of_length_le (by omega)]
   rfl) ((s, ((numOf (s.take 0) : Nat) : Int), ((0 : Nat) : Int), ()), ()) ⟨0, rfl, by omega, by simp, by rw [List.drop_zero]⟩
 exact h1
theorem beq_nat (c : UInt8) {k : Nat} (hk : k < 256) : (((c.toNat : Int)) == (k : Int)) = (c == UInt8.ofNat k) := by
 rw [Bool.eq_iff_iff, beq_iff_eq, beq_iff_eq]
 constructor
 ·intro h
  exact UInt8.toNat_inj.1 (by rw [UInt8.toNat_ofNat']; omega)
 ·rintro rfl
  rw [UInt8.toNat_ofNat']
  omega
theorem beq48 (c : UInt8) : (((c.toNat : Int)) == 48) = (c == 48) := beq_nat c (k := 48) (by decide)
theorem beq117 (c : UInt8) : (((c.toNat : Int)) == 117) = (c == 117) := beq_nat c (k := 117) (by decide)
theorem beq105 (c : UInt8) : (((c.toNat : Int)) == 105) = (c == 105) := beq_nat c (k := 105) (by decide)
theorem one48 {s : List UInt8} (h0 : s ≠ []) (h1 : ¬ 1 < s.length) : (s == [48] || !(s.getD 0 0 == 48)) = true := by
 cases s with
 | nil => exact absurd rfl h0
 | cons c s =>
  have : s = [] := List.eq_nil_of_length_eq_zero (by rw [List.length_cons] at h1; omega)
  subst this
  by_cases h : c = 48
  ·subst h; rfl
  ·have : (c == 48) = false := by simpa using h
   show ([c] == [48] || !(c == 48)) = true
   rw [this, Bool.not_false, Bool.or_true]
theorem L91_val (s : List UInt8) : L91 (s, ()) = some ((if nm s = true ∧ s.length ≤ 15 then ((numOf s : Int), true, ()) else (0, false, ())), ()) := by
 show F91 Lg91_5 (s, ()) = _
 rw [F91_eq]
 unfold nm
 by_cases h0 : s = []
 ·subst h0
  rw [if_pos (by rfl), if_neg (by simp)]
 ·rw [if_neg (by simpa using h0)]
  have e1 : (s == []) = false := by simpa using h0
  by_cases hl : s.length ≤ 15
  ·rw [if_neg (by simp; omega)]
   have hg : Lg91_5 ((s, 0, 0, ()), ()) = _ := Lg91_5_val hl
   have hl0 : 0 < s.length := List.length_pos_iff.2 h0
   by_cases h1 : 1 < s.length
   ·rw [if_pos (by simp; omega), if_pos (by omega), beq48]
    have e2 : (s == [48]) = false := by
     rw [beq_eq_false_iff_ne]; rintro rfl; simp at h1
    rw [e1, e2]
    by_cases h2 : (s.getD 0 0 == 48) = true
    ·rw [if_pos h2, if_neg (by rw [h2]; simp)]
    ·rw [if_neg h2, hg, Bool.eq_false_iff.2 h2]
     by_cases h3 : digs s = true
     ·rw [if_pos h3, if_pos (by simp [h3, hl])]; rfl
     ·rw [if_neg h3, if_neg (by simp [h3])]; rfl
   ·rw [if_neg (by simp; omega), one48 h0 h1, hg, e1]
    by_cases h3 : digs s = true
    ·rw [if_pos h3, if_pos (by simp [h3, hl])]; rfl
    ·rw [if_neg h3, if_neg (by simp [h3])]; rfl
  ·rw [if_pos (by simp; omega), if_neg (fun h => hl h.2)]
def wd (s : List UInt8) : Prop := 2 ≤ s.length ∧ (s.getD 0 0 = 117 ∨ s.getD 0 0 = 105) ∧ nm (s.drop 1) = true ∧ numOf (s.drop 1) ≤ 64 ∧ (0 < numOf (s.drop 1) ∨ s.getD 0 0 = 117)
instance (s : List UInt8) : Decidable (wd s) := by unfold wd; infer_instance
def tyb (s : List UInt8) : Option Nat :=
 if s = [102, 51, 50] then some 32 else if s = [102, 54, 52] then some 64 else if s = [112, 116, 114] then some 64 else if wd s then some (numOf (s.drop 1)) else none
theorem z2q {s : List UInt8} {n : Nat} (h : tyb s = some n) : n ≤ 64 := by
 unfold tyb at h
 split at h
 ·injection h with h; omega
 ·split at h
  ·injection h with h; omega
  ·split at h
   ·injection h with h; omega
   ·split at h
    ·rename_i hw
     injection h with h
     have := hw.2.2.2.1
     omega
    ·cases h
theorem nm_big {t : List UInt8} (h : nm t = true) (hl : 2 < t.length) : 64 < numOf t := by
 unfold nm at h
 rw [Bool.and_eq_true, Bool.and_eq_true, Bool.or_eq_true] at h
 obtain ⟨⟨h1, _⟩, h3⟩ := h
 cases t with
 | nil => simp at hl
 | cons c r =>
  rw [z6f, List.all_cons, Bool.and_eq_true] at h1
  have hc := z4l.1 h1.1
  have h4 : c ≠ 48 := by
   rcases h3 with h3 | h3
   ·rw [beq_iff_eq] at h3
    rw [h3] at hl
    simp at hl
   ·simpa using h3
  have h5 : c.toNat ≠ 48 := fun q => h4 (UInt8.toNat_inj.1 q)
  have h6 := numOf_ge (c := c) (r := r) (by omega)
  have h7 : 10 ^ 2 ≤ 10 ^ r.length := Nat.pow_le_pow_right (by decide) (by simp at hl; omega)
  omega
theorem width_core (t : List UInt8) (u : Bool) : ∃ n : Int, ((L91 (t, ())).bind fun y =>
  if y.1.2.1 = true then
   if decide (y.1.1 ≤ 64) = true then
    if decide (y.1.1 > 0) = true then some ((y.1.1, true, ()), ())
    else some ((y.1.1, u, ()), ())
   else some ((y.1.1, false, ()), ())
  else some ((y.1.1, false, ()), ()) : Option rs53.den) = some ((n, decide (nm t = true ∧ numOf t ≤ 64 ∧ (0 < numOf t ∨ u = true)), ()), ()) ∧ (nm t = true ∧ numOf t ≤ 64 ∧ (0 < numOf t ∨ u = true) → n = (numOf t : Int)) := by
 rw [L91_val t]
 simp only [Option.bind_some]
 by_cases hn : nm t = true ∧ t.length ≤ 15
 ·rw [if_pos hn]
  simp only [if_true]
  by_cases h64 : numOf t ≤ 64
  ·have q : decide ((numOf t : Int) ≤ 64) = true := by rw [decide_eq_true_eq]; omega
   rw [if_pos q]
   by_cases h0 : 0 < numOf t
   ·have q : decide ((numOf t : Int) > 0) = true := by rw [decide_eq_true_eq]; omega
    rw [if_pos q]
    exact ⟨_, by rw [decide_eq_true (show nm t = true ∧ numOf t ≤ 64 ∧ (0 < numOf t ∨ u = true) from ⟨hn.1, h64, .inl h0⟩)], fun _ => rfl⟩
   ·have q : ¬ decide ((numOf t : Int) > 0) = true := by rw [decide_eq_true_eq]; omega
    rw [if_neg q]
    refine ⟨_, ?_, fun _ => rfl⟩
    cases u with
    | true => rw [decide_eq_true (show nm t = true ∧ numOf t ≤ 64 ∧ (0 < numOf t ∨ true = true) from ⟨hn.1, h64, .inr rfl⟩)]
    | false => rw [decide_eq_false (show ¬ (nm t = true ∧ numOf t ≤ 64 ∧ (0 < numOf t ∨ false = true)) from fun h => by rcases h.2.2 with h | h; exact h0 h; cases h)]
  ·have q : ¬ decide ((numOf t : Int) ≤ 64) = true := by rw [decide_eq_true_eq]; omega
   rw [if_neg q]
   exact ⟨_, by rw [decide_eq_false (show ¬ (nm t = true ∧ numOf t ≤ 64 ∧ (0 < numOf t ∨ u = true)) from fun h => h64 h.2.1)], fun _ => rfl⟩
 ·rw [if_neg hn]
  have hno : ¬ (nm t = true ∧ numOf t ≤ 64 ∧ (0 < numOf t ∨ u = true)) := by
   rintro ⟨h1, h2, _⟩
   refine hn ⟨h1, ?_⟩
   by_cases hl : 2 < t.length
   ·have := nm_big h1 hl
    omega
   ·omega
  exact ⟨0, by rw [decide_eq_false hno]; rfl, fun h => absurd h hno⟩
theorem L53_val (s : List UInt8) : (wd s → L53 (s, ()) = some (((numOf (s.drop 1) : Int), true, ()), ())) ∧ (¬ wd s → ∃ n, L53 (s, ()) = some ((n, false, ()), ())) := by
 have e : L53 (s, ()) = _ := F53_eq L91 s
 by_cases h2 : 2 ≤ s.length
 ·have g0 : (0 : Int) < (s.length : Int) := by omega
  have g1 : (1 : Int) ≤ (s.length : Int) := by omega
  rw [if_neg (by simp; omega), beq117, beq105] at e
  simp only [if_pos g0, if_pos g1, if_pos (Int.le_refl _)] at e
  obtain ⟨n, k1, k2⟩ := width_core (s.drop 1) (s.getD 0 0 == 117)
  rw [k1] at e
  by_cases hu : s.getD 0 0 = 117
  ·have hu' : (!(s.getD 0 0 == 117)) = false := by rw [hu]; rfl
   have hu2 : (s.getD 0 0 == 117) = true := by rw [hu]; rfl
   rw [hu', if_neg (by decide)] at e
   rw [hu2] at e k2
   refine ⟨fun h => ?_, fun h => ⟨n, ?_⟩⟩
   ·have q := And.intro h.2.2.1 (And.intro h.2.2.2.1 (Or.inr (a := 0 < numOf (s.drop 1)) rfl : 0 < numOf (s.drop 1) ∨ true = true))
    rw [e, k2 q, decide_eq_true q]
   ·rw [e, decide_eq_false fun q => h ⟨h2, .inl hu, q.1, q.2.1, .inr hu⟩]
  ·have hu' : (!(s.getD 0 0 == 117)) = true := by rw [Bool.not_eq_true', beq_eq_false_iff_ne]; exact hu
   have hu2 : (s.getD 0 0 == 117) = false := by rw [beq_eq_false_iff_ne]; exact hu
   rw [hu', if_pos rfl] at e
   rw [hu2] at e k2
   by_cases hi : s.getD 0 0 = 105
   ·have hi' : (!(s.getD 0 0 == 105)) = false := by rw [hi]; rfl
    rw [hi', if_neg (by decide)] at e
    refine ⟨fun h => ?_, fun h => ⟨n, ?_⟩⟩
    ·have q : nm (s.drop 1) = true ∧ numOf (s.drop 1) ≤ 64 ∧ (0 < numOf (s.drop 1) ∨ false = true) := ⟨h.2.2.1, h.2.2.2.1, .inl (by rcases h.2.2.2.2 with h | h; exact h; exact absurd h hu)⟩
     rw [e, k2 q, decide_eq_true q]
    ·rw [e, decide_eq_false fun q => h ⟨h2, .inr hi, q.1, q.2.1, .inl (by rcases q.2.2 with h | h; exact h; cases h)⟩]
   ·have hi' : (!(s.getD 0 0 == 105)) = true := by rw [Bool.not_eq_true', beq_eq_false_iff_ne]; exact hi
    rw [hi', if_pos rfl] at e
    exact ⟨fun h => absurd h.2.1 (by rintro (h | h) <;> contradiction), fun _ => ⟨_, e⟩⟩
 ·rw [if_pos (by simp; omega)] at e
  exact ⟨fun h => absurd h.1 h2, fun _ => ⟨_, e⟩⟩
def szA : Option Nat → Int × Int × Unit
 | some n => (((n + 7) / 8 : Nat), 0, ())
 | none => (0, 12, ())
theorem size_form {n : Nat} (h : n ≤ 64) : IntKind.i64.wrap ((IntKind.i64.wrap ((n : Int) + 7)).tdiv 8) = (((n + 7) / 8 : Nat) : Int) := by
 rw [wi (n := (n : Int) + 7) (by omega) (by omega), Int.tdiv_eq_ediv_of_nonneg (by omega), wi (by omega) (by omega)]
 omega
theorem z5F (s : List UInt8) : L15 (s, ()) = some (szA (tyb s), ()) := by
 refine (F15_eq L53 s).trans ?_
 unfold tyb
 by_cases h1 : s = [102, 51, 50]
 ·rw [if_pos (by simpa using h1), if_pos h1]; rfl
 ·rw [if_neg (by simpa using h1), if_neg h1]
  by_cases h2 : s = [102, 54, 52]
  ·rw [if_pos (by simpa using h2), if_pos (by simpa using h2), if_pos h2]; rfl
  ·rw [if_neg (by simpa using h2), if_neg h2]
   by_cases h3 : s = [112, 116, 114]
   ·rw [if_pos (by simpa using h3), if_pos h3]; rfl
   ·rw [if_neg (by simpa using h3), if_neg h3]
    obtain ⟨k1, k2⟩ := L53_val s
    by_cases hw : wd s
    ·rw [if_pos hw, k1 hw]
     show some _ = _
     rw [size_form hw.2.2.2.1]
     rfl
    ·obtain ⟨n, k2⟩ := k2 hw
     rw [if_neg hw, k2]
     rfl
theorem L37_val {s : List UInt8} {n : Nat} (h : tyb s = some n) : L37 (s, ()) = some (((n : Int), ()), ()) := by
 refine (F37_eq L53 s).trans ?_
 unfold tyb at h
 by_cases h1 : s = [102, 51, 50]
 ·rw [if_pos h1] at h
  injection h with h
  rw [if_pos (by simpa using h1), ← h]; rfl
 ·rw [if_neg h1] at h
  rw [if_neg (by simpa using h1)]
  by_cases h2 : s = [102, 54, 52]
  ·rw [if_pos h2] at h
   injection h with h
   rw [if_pos (by simpa using h2), ← h]; rfl
  ·rw [if_neg h2] at h
   rw [if_neg (by simpa using h2)]
   by_cases h3 : s = [112, 116, 114]
   ·rw [if_pos h3] at h
    injection h with h
    rw [if_pos (by simpa using h3), ← h]; rfl
   ·rw [if_neg h3] at h
    rw [if_neg (by simpa using h3)]
    by_cases hw : wd s
    ·rw [if_pos hw] at h
     injection h with h
     rw [(L53_val s).1 hw, ← h]; rfl
    ·rw [if_neg hw] at h
     cases h
theorem L98_val : L98 () = some (((), ()), [([102, 51, 50], 32), ([102, 54, 52], 64), ([112, 116, 114], 64)], ()) := F98_eq
theorem L99_val {t : List UInt8} (h : digs t = true) (h0 : 0 < t.length) (h1 : t.length ≤ 1000) : L99 (t, ()) = some (if numOf t < 9223372036854775808 then (((numOf t : Int), true, ()), ()) else ((9223372036854775807, false, ()), ())) := by
 show F99 (t, ()) = _
 unfold F99
 rw [if_pos (by simp [h, Nat.blt]; omega)]
 split <;> rfl
theorem look_named (s : List UInt8) : lookM Ty.str (Ty.int IntKind.i64) [([102, 51, 50], (32 : Int)), ([102, 54, 52], 64), ([112, 116, 114], 64)] s = (if s = [102, 51, 50] then some 32 else if s = [102, 54, 52] then some 64 else if s = [112, 116, 114] then some 64 else none) := by
 by_cases h1 : s = [102, 51, 50]
 ·subst h1; rfl
 ·by_cases h2 : s = [102, 54, 52]
  ·subst h2; rfl
  ·by_cases h3 : s = [112, 116, 114]
   ·subst h3; rfl
   ·rw [if_neg h1, if_neg h2, if_neg h3]
    have key : ∀ a : List UInt8, s ≠ a → ¬ Ty.str.keq s a = true := fun a h q => h (by simpa [Ty.keq] using q)
    simp only [lookM]
    rw [if_neg (key _ h1), if_neg (key _ h2), if_neg (key _ h3)]
end Go.Proofs.Rf
namespace Go.Proofs.Rf
open Go Go.RowKit
theorem L99_bits {t : List UInt8} (h : digs t = true) (h0 : 0 < t.length) (h1 : t.length ≤ 1000) : ∃ n : Int, ((L99 (t, ())).bind fun y =>
  if y.1.2.1 = true then some ((y.1.1, decide (y.1.1 ≤ 64), ()), ()) else some ((y.1.1, false, ()), ()) : Option rs69.den) = some ((n, decide (numOf t ≤ 64), ()), ()) ∧ (numOf t ≤ 64 → n = (numOf t : Int)) := by
 rw [L99_val h h0 h1]
 by_cases hl : numOf t < 9223372036854775808
 ·rw [if_pos hl]
  refine ⟨(numOf t : Int), ?_, fun _ => rfl⟩
  show some (((numOf t : Int), decide ((numOf t : Int) ≤ 64), ()), ()) = _
  congr 4
  rw [decide_eq_decide]
  omega
 ·rw [if_neg hl]
  refine ⟨9223372036854775807, ?_, fun h => by omega⟩
  rw [decide_eq_false (by omega)]
  rfl
theorem L69_core (s : List UInt8) (hl : s.length ≤ 1000) (h2 : 2 ≤ s.length) (hb : s.getD 1 0 = 48 → s = [117, 48]) :
  ∃ n : Int, ((Lg69_7 ((s, (), ()), ((s.drop 1, 0), ()))).bind fun y => Sum.elim (fun y => some ((y.1.1, y.1.2.1, ()), ())) (fun z =>
    if 1 ≤ (z.1.1.length : Int) then
     (L99 (List.drop 1 z.1.1, ())).bind fun y => if y.1.2.1 = true then some ((y.1.1, decide (y.1.1 ≤ 64), ()), ()) else some ((y.1.1, false, ()), ())
    else none) y : Option rs69.den) = some ((n, decide (nm (s.drop 1) = true ∧ numOf (s.drop 1) ≤ 64), ()), ()) ∧ (nm (s.drop 1) = true ∧ numOf (s.drop 1) ≤ 64 → n = (numOf (s.drop 1) : Int)) := by
 rw [Lg69_7_val]
 simp only [Option.bind_some]
 have hne : s.drop 1 ≠ [] := by
  intro h
  have := congrArg List.length h
  simp at this
  omega
 have hz : (s.drop 1 == [48] || !((s.drop 1).getD 0 0 == 48)) = true := by
  have e : (s.drop 1).getD 0 0 = s.getD 1 0 := by simp [List.getD]
  rw [e]
  by_cases h : s.getD 1 0 = 48
  ·rw [hb h]; rfl
  ·rw [show (s.getD 1 0 == 48) = false by rw [beq_eq_false_iff_ne]; exact h, Bool.not_false, Bool.or_true]
 by_cases hd : digs (s.drop 1) = true
 ·rw [if_pos hd]
  simp only [Sum.elim_inr]
  have g1 : (1 : Int) ≤ (s.length : Int) := by omega
  rw [if_pos g1]
  obtain ⟨n, k1, k2⟩ := L99_bits hd (by simp; omega) (by simp; omega)
  have hn : nm (s.drop 1) = true := by
   unfold nm
   rw [hd, hz]
   simpa using hne
  refine ⟨n, k1.trans ?_, fun h => k2 h.2⟩
  congr 4
  rw [decide_eq_decide]
  exact ⟨fun h => ⟨hn, h⟩, fun h => h.2⟩
 ·rw [if_neg hd]
  have hn : ¬ (nm (s.drop 1) = true ∧ numOf (s.drop 1) ≤ 64) := by
   rintro ⟨h, _⟩
   unfold nm at h
   rw [Bool.and_eq_true, Bool.and_eq_true] at h
   exact hd h.1.1
  exact ⟨0, by rw [decide_eq_false hn]; rfl, fun h => absurd h hn⟩
theorem wd_iff (s : List UInt8) : wd s ↔ 2 ≤ s.length ∧ (s.getD 0 0 = 117 ∨ s.getD 0 0 = 105) ∧ (s.getD 1 0 = 48 → s = [117, 48]) ∧ nm (s.drop 1) = true ∧ numOf (s.drop 1) ≤ 64 := by
 have key : 2 ≤ s.length → nm (s.drop 1) = true → s.getD 1 0 = 48 → s.drop 1 = [48] := by
  intro h2 hn h
  unfold nm at hn
  rw [Bool.and_eq_true, Bool.or_eq_true] at hn
  rcases hn.2 with h3 | h3
  ·simpa using h3
  ·have e : (s.drop 1).getD 0 0 = s.getD 1 0 := by simp [List.getD]
   rw [e, h] at h3
   simp at h3
 have hs : 2 ≤ s.length → s.drop 1 = [48] → s = [s.getD 0 0, 48] := by
  intro h2 h
  cases s with
  | nil => simp at h2
  | cons c r =>
   simp only [List.drop_succ_cons, List.drop_zero] at h
   rw [h]
   rfl
 constructor
 ·rintro ⟨h1, h2, h3, h4, h5⟩
  refine ⟨h1, h2, fun h => ?_, h3, h4⟩
  have hk := key h1 h3 h
  have hss := hs h1 hk
  rcases h5 with h5 | h5
  ·rw [hk] at h5
   exact absurd h5 (by decide)
  ·rw [hss, h5]
 ·rintro ⟨h1, h2, h3, h4, h5⟩
  refine ⟨h1, h2, h4, h5, ?_⟩
  by_cases h : s.getD 1 0 = 48
  ·rw [h3 h]; exact .inr rfl
  ·refine .inl ?_
   have hn := h4
   unfold nm at hn
   rw [Bool.and_eq_true, Bool.and_eq_true] at hn
   cases s with
   | nil => simp at h1
   | cons c r =>
    cases r with
    | nil => simp at h1
    | cons d r =>
     simp only [List.drop_succ_cons, List.drop_zero] at hn ⊢
     rw [z6f, List.all_cons, Bool.and_eq_true] at hn
     have hd := z4l.1 hn.1.1.1
     have hd' : d.toNat ≠ 48 := fun q => h (UInt8.toNat_inj.1 q)
     have := numOf_ge (c := d) (r := r) (by omega)
     have h10 : 0 < 10 ^ r.length := Nat.pow_pos (by decide)
     omega
theorem L69_val (s : List UInt8) (hl : s.length ≤ 1000) : (∀ n, tyb s = some n → L69 (s, ()) = some (((n : Int), true, ()), ())) ∧ (tyb s = none → ∃ n, L69 (s, ()) = some ((n, false, ()), ())) := by
 have e : L69 (s, ()) = _ := F69_eq L98 L99 Lg69_7 s
 rw [L98_val] at e
 simp only [Option.bind_some] at e
 rw [look_named s] at e
 unfold tyb
 by_cases h1 : s = [102, 51, 50]
 ·rw [if_pos h1] at e ⊢
  exact ⟨fun n h => by injection h with h; rw [← h]; exact e, fun h => by cases h⟩
 ·rw [if_neg h1] at e ⊢
  by_cases h2 : s = [102, 54, 52]
  ·rw [if_pos h2] at e ⊢
   exact ⟨fun n h => by injection h with h; rw [← h]; exact e, fun h => by cases h⟩
  ·rw [if_neg h2] at e ⊢
   by_cases h3 : s = [112, 116, 114]
   ·rw [if_pos h3] at e ⊢
    exact ⟨fun n h => by injection h with h; rw [← h]; exact e, fun h => by cases h⟩
   ·rw [if_neg h3] at e ⊢
    rw [if_neg (show ¬ ((none : Option Int).isSome = true) by decide)] at e
    by_cases hlen : 2 ≤ s.length
    ·have g0 : (0 : Int) < (s.length : Int) := by omega
     have g1 : (1 : Int) ≤ (s.length : Int) := by omega
     have g2 : (1 : Int) < (s.length : Int) := by omega
     rw [if_neg (by simp; omega)] at e
     simp only [if_pos g0, if_pos g1, if_pos g2, if_pos (Int.le_refl _)] at e
     rw [beq117, beq105, beq48] at e
     by_cases hb : s.getD 1 0 = 48 → s = [117, 48]
     ·obtain ⟨n, k1, k2⟩ := L69_core s hl hlen hb
      have e2 : L69 (s, ()) = if (s.getD 0 0 = 117 ∨ s.getD 0 0 = 105) then some ((n, decide (nm (s.drop 1) = true ∧ numOf (s.drop 1) ≤ 64), ()), ()) else some ((0, false, ()), ()) := by
       rw [e, ← k1]
       have hb2 : ∀ x y : Option rs69.den, (if (s.getD 1 0 == 48) = true then (if (!(s == [117, 48])) = true then x else y) else y) = y := by
        intro x y
        by_cases q : s.getD 1 0 = 48
        ·rw [if_pos (by rw [q]; rfl), if_neg (by rw [hb q]; decide)]
        ·rw [if_neg (by rw [beq_iff_eq]; exact q)]
       rw [hb2]
       by_cases hu : s.getD 0 0 = 117
       ·rw [if_neg (by rw [hu]; decide), if_pos (.inl hu)]
       ·rw [if_pos (by rw [Bool.not_eq_true', beq_eq_false_iff_ne]; exact hu)]
        by_cases hi : s.getD 0 0 = 105
        ·rw [if_neg (by rw [hi]; decide), if_pos (.inr hi)]
        ·rw [if_pos (by rw [Bool.not_eq_true', beq_eq_false_iff_ne]; exact hi), if_neg (by rintro (h | h) <;> contradiction)]
      rw [e2]
      by_cases hw : wd s
      ·have hw' := (wd_iff s).1 hw
       rw [if_pos hw, if_pos hw'.2.1, k2 hw'.2.2.2, decide_eq_true hw'.2.2.2]
       exact ⟨fun n h => (by injection h with h; rw [← h]), fun h => (by cases h)⟩
      ·rw [if_neg hw]
       refine ⟨fun n h => (by cases h), fun _ => ?_⟩
       by_cases hu : s.getD 0 0 = 117 ∨ s.getD 0 0 = 105
       ·rw [if_pos hu, decide_eq_false fun q => hw ((wd_iff s).2 ⟨hlen, hu, hb, q.1, q.2⟩)]
        exact ⟨_, rfl⟩
       ·rw [if_neg hu]
        exact ⟨_, rfl⟩
     ·have hb1 : s.getD 1 0 = 48 := Decidable.byContradiction fun q => hb fun h => absurd h q
      have hb2 : ¬ s = [117, 48] := fun q => hb fun _ => q
      have hw : ¬ wd s := fun h => hb ((wd_iff s).1 h).2.2.1
      rw [if_neg hw]
      refine ⟨fun n h => (by cases h), fun _ => ⟨0, ?_⟩⟩
      rw [e]
      have q1 : (s.getD 1 0 == 48) = true := by rw [hb1]; rfl
      have q2 : (!(s == [117, 48])) = true := by rw [Bool.not_eq_true', beq_eq_false_iff_ne]; exact hb2
      rw [q1, q2]
      simp only [if_true]
      split
      ·split <;> rfl
      ·rfl
    ·have hw : ¬ wd s := fun h => hlen h.1
     rw [if_neg hw]
     rw [if_pos (by simp; omega)] at e
     exact ⟨fun n h => (by cases h), fun _ => ⟨_, e⟩⟩
theorem L28_val (s : List UInt8) (hl : s.length ≤ 1000) : L28 (s, ()) = some (szA (tyb s), ()) := by
 refine (F28_eq L69 s).trans ?_
 obtain ⟨k1, k2⟩ := L69_val s hl
 cases h : tyb s with
 | none =>
  obtain ⟨n, k2⟩ := k2 h
  rw [k2]
  rfl
 | some n =>
  rw [k1 n h]
  show some _ = _
  rw [size_form (z2q h)]
  rfl
def mk (n : Nat) : Int := if n = 64 then 18446744073709551615 else IntKind.u64.wrap (IntKind.u64.wrap (1 * 2 ^ min n 64) - 1)
theorem L94_val {s : List UInt8} {n : Nat} (h : tyb s = some n) (hl : s.length ≤ 1000) : L94 (s, ()) = some ((mk n, ()), ()) := by
 refine (F94_eq L69 s).trans ?_
 rw [(L69_val s hl).1 n h]
 simp only [Option.bind_some]
 unfold mk
 by_cases h64 : n = 64
 ·subst h64
  rfl
 ·have q1 : ¬ (((n : Int) == 64) = true) := by rw [beq_iff_eq]; omega
  have q2 : ¬ ((n : Int) < 0) := by omega
  refine (if_neg q1).trans ((if_neg q2).trans ?_)
  rw [if_neg h64]
  rfl
theorem L36_val {n : Nat} (h : n ≤ 64) : L36 ((n : Int), ()) = some ((mk n, ()), ()) := by
 refine (F36_eq n).trans ?_
 unfold mk
 by_cases h64 : n = 64
 ·subst h64
  rfl
 ·rw [if_neg (by rw [decide_eq_true_eq]; omega), if_neg (by omega), if_neg h64]
  rfl
def alg (n : Nat) : Nat := if n ≤ 1 then 1 else if n ≤ 2 then 2 else if n ≤ 4 then 4 else 8
theorem Lg70_2_val : ∀ n : Nat, n ≤ 8 → Lg70_2 (((n : Int), 1, ()), ()) = some (((alg n : Int), ()), ())
 | 0, _ => z0z 10 (by kernel_rfl)
 | 1, _ => z0z 10 (by kernel_rfl)
 | 2, _ => z0z 10 (by kernel_rfl)
 | 3, _ => z0z 10 (by kernel_rfl)
 | 4, _ => z0z 10 (by kernel_rfl)
 | 5, _ => z0z 10 (by kernel_rfl)
 | 6, _ => z0z 10 (by kernel_rfl)
 | 7, _ => z0z 10 (by kernel_rfl)
 | 8, _ => z0z 10 (by kernel_rfl)
 | n + 9, h => by omega
theorem Lg109_5_val : ∀ n : Nat, n ≤ 8 → Lg109_5 (((n : Int), 1, ()), ()) = some (((alg n : Int), ()), ())
 | 0, _ => z0z 10 (by kernel_rfl)
 | 1, _ => z0z 10 (by kernel_rfl)
 | 2, _ => z0z 10 (by kernel_rfl)
 | 3, _ => z0z 10 (by kernel_rfl)
 | 4, _ => z0z 10 (by kernel_rfl)
 | 5, _ => z0z 10 (by kernel_rfl)
 | 6, _ => z0z 10 (by kernel_rfl)
 | 7, _ => z0z 10 (by kernel_rfl)
 | 8, _ => z0z 10 (by kernel_rfl)
 | n + 9, h => by omega
theorem L70_val {n : Nat} (h : n ≤ 8) : L70 ((n : Int), ()) = some (((alg n : Int), ()), ()) := by
 refine (F70_eq Lg70_2 n).trans ?_
 rw [Lg70_2_val n h]
 rfl
def alA : Option Nat → Int × Int × Unit
 | some n => ((alg ((n + 7) / 8) : Nat), 0, ())
 | none => (0, 12, ())
theorem L109_val (s : List UInt8) : L109 (s, ()) = some (alA (tyb s), ()) := by
 refine (F109_eq L15 Lg109_5 s).trans ?_
 rw [z5F]
 cases h : tyb s with
 | none => rfl
 | some n =>
  have := z2q h
  show (Lg109_5 (((((n + 7) / 8 : Nat) : Int), 1, ()), ())).bind _ = _
  rw [Lg109_5_val _ (by omega)]
  rfl
theorem L54_val {s : List UInt8} {n : Nat} (h : tyb s = some n) (hl : s.length ≤ 1000) (a : Int × Int) (w : Bool) : L54 (s, a, w, ()) = some (((a, (((n + 7) / 8 : Nat) : Int), (alg ((n + 7) / 8) : Int), w), true, ()), ()) := by
 refine (F54_eq L28 L70 s a.1 a.2 w).trans ?_
 have := z2q h
 rw [L28_val s hl, h]
 show (L70 ((((n + 7) / 8 : Nat) : Int), ())).bind _ = _
 rw [L70_val (by omega)]
 rfl
theorem L54_none {s : List UInt8} (h : tyb s = none) (hl : s.length ≤ 1000) (a : Int × Int) (w : Bool) : L54 (s, a, w, ()) = some (((a, 0, 1, w), false, ()), ()) := by
 refine (F54_eq L28 L70 s a.1 a.2 w).trans ?_
 rw [L28_val s hl, h]
 show (L70 (((0 : Nat) : Int), ())).bind _ = _
 rw [L70_val (by omega)]
 rfl
end Go.Proofs.Rf
namespace Go.Proofs.Rf
open Go Go.RowKit
abbrev Bp := Tl × List Cl
abbrev Br := Tl × List Kl
abbrev dB : Bp := ((0, 0, false, false), [])
abbrev dK : Br := ((0, 0, false, false), [])
abbrev zC : Cl := (0, 0, 0, 0)
abbrev zK : Kl := (0, 0, (0, 0), 0)
def cvC (c : Cl) : Kl := if c.1 = 2 then (2, 0, c.2.2, c.2.1) else (c.1, c.2.1, c.2.2, 0)
def cvB (b : Bp) : Br := ((b.1.1, b.1.2.1, b.1.2.2.1, !b.1.2.2.2), b.2.map cvC)
def cv (m : List Bp) : List Br := m.map cvB
def wfC (c : Cl) : Prop := c = zC ∨ (c.1 = 1 ∧ c.2.2 = (0, 0)) ∨ (c.1 = 2 ∧ 0 ≤ c.2.2.1)
structure Inv (m : List Bp) : Prop where
 len : m.length ≤ 1000
 bl : ∀ b ∈ m, b.2.length ≤ 65536 ∧ ∀ c ∈ b.2, wfC c
theorem z0y (m : List Bp) : (cv m).length = m.length := by simp [cv]
theorem z2y {m : List Bp} {k : Nat} (h : k < m.length) : (cv m).getD k dK = cvB (m.getD k dB) := by
 rw [z1s dK (by rw [z0y]; exact h), z1s dB h]
 simp [cv]
theorem Inv.at {m : List Bp} (h : Inv m) (k : Nat) : (m.getD k dB).2.length ≤ 65536 ∧ ∀ c ∈ (m.getD k dB).2, wfC c := by
 by_cases hk : k < m.length
 ·rw [z1s dB hk]
  exact h.bl _ (List.getElem_mem hk)
 ·rw [List.getD_eq_getElem?_getD, List.getElem?_eq_none (by omega)]
  simp
def fm (n : Nat) (a : Int × Int) : Bool := decide ((a.1 = -1 ∧ a.2 = 0) ∨ (0 ≤ a.1 ∧ a.1 < n ∧ -1099511627776 ≤ a.2 ∧ a.2 ≤ 1099511627776))
def isN (a : Int × Int) : Bool := decide (a.1 = -1 ∧ a.2 = 0)
theorem z3d (x y : Int) : (x == -1 && (y == 0 && true)) = isN (x, y) := by
 unfold isN
 rw [Bool.and_true, Bool.eq_iff_iff, Bool.and_eq_true, beq_iff_eq, beq_iff_eq, decide_eq_true_eq]
theorem z1M : L51 () = some (((-1, 0), ()), ()) := F51_eq
theorem z3P : L103 () = some (((-1, 0), ()), ()) := F103_eq
theorem z5C (m : List Bp) (u : Int) (a : Int × Int) : L65 ((m, u, ()), a, ()) = some ((fm m.length a, ()), ()) := by
 obtain ⟨x, y⟩ := a
 refine (F65_eq L51 m u x y).trans ?_
 rw [z1M]
 simp only [Option.bind_some]
 rw [z3d]
 unfold fm isN
 simp only
 by_cases h : x = -1 ∧ y = 0
 ·rw [if_pos (decide_eq_true h), decide_eq_true (.inl h)]
 ·rw [if_neg (by rw [decide_eq_true_eq]; exact h)]
  by_cases h1 : 0 ≤ x
  ·rw [if_pos (decide_eq_true h1)]
   by_cases h2 : x < (m.length : Int)
   ·rw [if_pos (decide_eq_true h2)]
    by_cases h3 : -1099511627776 ≤ y
    ·rw [if_pos (decide_eq_true h3)]
     congr 3
     rw [decide_eq_decide]
     exact ⟨fun q => .inr ⟨h1, h2, h3, q⟩, fun q => by rcases q with q | q; exact absurd q h; exact q.2.2.2⟩
    ·rw [if_neg (by rw [decide_eq_true_eq]; exact h3), decide_eq_false (by rintro (q | q); exact h q; exact h3 q.2.2.1)]
   ·rw [if_neg (by rw [decide_eq_true_eq]; exact h2), decide_eq_false (by rintro (q | q); exact h q; exact h2 q.2.1)]
  ·rw [if_neg (by rw [decide_eq_true_eq]; exact h1), decide_eq_false (by rintro (q | q); exact h q; exact h1 q.1)]
theorem z3O (m : List Bp) (u : Int) (a : Int × Int) : L106 ((cv m, u, ()), a, ()) = some ((fm m.length a, ()), ()) := by
 obtain ⟨x, y⟩ := a
 refine (F106_eq (cv m) u x y).trans ?_
 rw [z0y]
 unfold fm
 simp only
 by_cases h : x = -1
 ·rw [if_pos (by rw [beq_iff_eq]; exact h)]
  congr 3
  rw [Bool.eq_iff_iff, beq_iff_eq, decide_eq_true_eq]
  exact ⟨fun q => .inl ⟨h, q⟩, fun q => by rcases q with q | q; exact q.2; omega⟩
 ·rw [if_neg (by rw [beq_iff_eq]; exact h)]
  by_cases h1 : 0 ≤ x
  ·rw [if_pos (decide_eq_true h1)]
   by_cases h2 : x < (m.length : Int)
   ·rw [if_pos (decide_eq_true h2)]
    by_cases h3 : -1099511627776 ≤ y
    ·rw [if_pos (decide_eq_true h3)]
     congr 3
     rw [decide_eq_decide]
     exact ⟨fun q => .inr ⟨h1, h2, h3, q⟩, fun q => by rcases q with q | q; exact absurd q.1 h; exact q.2.2.2⟩
    ·rw [if_neg (by rw [decide_eq_true_eq]; exact h3), decide_eq_false (by rintro (q | q); exact h q.1; exact h3 q.2.2.1)]
   ·rw [if_neg (by rw [decide_eq_true_eq]; exact h2), decide_eq_false (by rintro (q | q); exact h q.1; exact h2 q.2.1)]
  ·rw [if_neg (by rw [decide_eq_true_eq]; exact h1), decide_eq_false (by rintro (q | q); exact h q.1; exact h1 q.1)]
theorem z5Q {n : Nat} {a : Int × Int} (h : fm n a = true) (h1 : isN a = false) : 0 ≤ a.1 ∧ a.1 < n ∧ -1099511627776 ≤ a.2 ∧ a.2 ≤ 1099511627776 := by
 unfold fm at h
 unfold isN at h1
 rw [decide_eq_true_eq] at h
 rw [decide_eq_false_iff_not] at h1
 rcases h with h | h
 ·exact absurd h h1
 ·exact h
theorem z6X {n : Nat} {a : Int × Int} (h : fm n a = true) : a.1 < 0 ↔ isN a = true := by
 unfold fm at h
 unfold isN
 rw [decide_eq_true_eq] at h ⊢
 constructor
 ·intro q
  rcases h with h | h
  ·exact h
  ·omega
 ·intro q
  omega
abbrev blk (m : List Bp) (a : Int × Int) : Bp := m.getD a.1.toNat dB
def c1 (m : List Bp) (a : Int × Int) (n : Int) : Prop := a.1 < 0 ∨ fm m.length a = false ∨ a.2 < 0 ∨ ((blk m a).2.length : Int) < a.2 ∨ ((blk m a).2.length : Int) - a.2 < n
def c3 (m : List Bp) (a : Int × Int) (al : Int) : Prop := 0 < al ∧ (al > (blk m a).1.2.1 ∨ a.2.tmod al ≠ 0)
instance (m : List Bp) (a : Int × Int) (n : Int) : Decidable (c1 m a n) := by unfold c1; infer_instance
instance (m : List Bp) (a : Int × Int) (n : Int) : Decidable (c3 m a n) := by unfold c3; infer_instance
def kd (m : List Bp) (a : Int × Int) (n al : Int) (w : Bool) : Int :=
 if n ≤ 0 then -1 else if c1 m a n then 14 else if (blk m a).1.2.2.2 = true then 15 else if c3 m a al then 16 else if (w && (blk m a).1.2.2.1) = true then 17 else -1
theorem L117_val {m : List Bp} (hI : Inv m) (u : Int) (a : Int × Int) (n al : Int) (w : Bool) : L117 ((m, u, ()), (a, n, al, w), ()) = some ((decide (c1 m a n), ()), ()) := by
 obtain ⟨x, y⟩ := a
 refine (F117_eq L51 L65 m u x y n al w).trans ?_
 rw [z1M]
 simp only [Option.bind_some]
 rw [z3d]
 rw [z5C m u (x, y)]
 simp only [Option.bind_some]
 have hb : (m.getD x.toNat ((0, 0, false, false), [])).2.length ≤ 65536 := (hI.at x.toNat).1
 by_cases h0 : isN (x, y) = true
 ·rw [if_pos h0, decide_eq_true (show c1 m (x, y) n from .inl (by unfold isN at h0; rw [decide_eq_true_eq] at h0; omega))]
 ·rw [if_neg h0]
  by_cases h1 : fm m.length (x, y) = true
  ·obtain ⟨p1, p2, _, _⟩ := z5Q h1 (by simpa using h0)
   have p1 : 0 ≤ x := p1
   have p2 : x < (m.length : Int) := p2
   rw [if_neg (by rw [h1]; decide), if_pos p1, if_pos p2]
   by_cases h2 : y < 0
   ·rw [if_pos (decide_eq_true h2), decide_eq_true (show c1 m (x, y) n from .inr (.inr (.inl h2)))]
   ·rw [if_neg (by rw [decide_eq_true_eq]; exact h2)]
    by_cases h3 : ((m.getD x.toNat ((0, 0, false, false), [])).2.length : Int) < y
    ·rw [if_pos (decide_eq_true h3), decide_eq_true (show c1 m (x, y) n from .inr (.inr (.inr (.inl h3))))]
    ·rw [if_neg (by rw [decide_eq_true_eq]; exact h3), wi (by omega) (by omega)]
     congr 3
     rw [decide_eq_decide]
     refine ⟨fun q => .inr (.inr (.inr (.inr q))), fun q => ?_⟩
     rcases q with q | q | q | q | q
     ·exact absurd p1 (by show ¬ 0 ≤ x; have q : x < 0 := q; omega)
     ·rw [h1] at q; cases q
     ·exact absurd q h2
     ·exact absurd q h3
     ·exact q
  ·rw [if_pos (by simpa using h1), decide_eq_true (show c1 m (x, y) n from .inr (.inl (by simpa using h1)))]
theorem z2g {m : List Bp} {a : Int × Int} {n : Int} (h : ¬ c1 m a n) : 0 ≤ a.1 ∧ a.1 < m.length ∧ 0 ≤ a.2 ∧ a.2 ≤ (blk m a).2.length ∧ a.2 + n ≤ (blk m a).2.length ∧ fm m.length a = true := by
 unfold c1 at h
 have h1 : ¬ a.1 < 0 := fun q => h (.inl q)
 have h2 : fm m.length a = true := by
  cases q : fm m.length a with
  | true => rfl
  | false => exact absurd (.inr (.inl q)) h
 have h3 : ¬ a.2 < 0 := fun q => h (.inr (.inr (.inl q)))
 have h4 : ¬ ((blk m a).2.length : Int) < a.2 := fun q => h (.inr (.inr (.inr (.inl q))))
 have h5 : ¬ ((blk m a).2.length : Int) - a.2 < n := fun q => h (.inr (.inr (.inr (.inr q))))
 have h6 := (z5Q h2 (by
  cases q : isN a with
  | false => rfl
  | true => exact absurd ((z6X h2).2 q) h1)).2.1
 exact ⟨by omega, h6, by omega, by omega, by omega, h2⟩
theorem L118_val {m : List Bp} {a : Int × Int} {n : Int} (h : ¬ c1 m a n) (u : Int) (al : Int) (w : Bool) : L118 ((m, u, ()), (a, n, al, w), ()) = some (((blk m a).1.2.2.2, ()), ()) := by
 obtain ⟨p1, p2, _⟩ := z2g h
 exact (F118_eq m u a.1 a.2 n al w).trans ((if_pos p1).trans (if_pos p2))
theorem L119_val {m : List Bp} {a : Int × Int} {n : Int} (h : ¬ c1 m a n) (u : Int) (al : Int) (w : Bool) : L119 ((m, u, ()), (a, n, al, w), ()) = some ((decide (c3 m a al), ()), ()) := by
 obtain ⟨p1, p2, _⟩ := z2g h
 refine (F119_eq m u a.1 a.2 n al w).trans ?_
 by_cases h1 : 0 < al
 ·rw [if_pos (decide_eq_true h1), if_pos p1, if_pos p2]
  by_cases h2 : al > (blk m a).1.2.1
  ·rw [if_pos (decide_eq_true h2), decide_eq_true (show c3 m a al from ⟨h1, .inl h2⟩)]
  ·rw [if_neg (by rw [decide_eq_true_eq]; exact h2), if_neg (by omega)]
   congr 3
   rw [Bool.eq_iff_iff, Bool.not_eq_true', beq_eq_false_iff_ne, decide_eq_true_eq]
   exact ⟨fun q => ⟨h1, .inr q⟩, fun q => by rcases q.2 with q | q; exact absurd q h2; exact q⟩
 ·rw [if_neg (by rw [decide_eq_true_eq]; exact h1), decide_eq_false (show ¬ c3 m a al from fun q => h1 q.1)]
theorem L120_val {m : List Bp} {a : Int × Int} {n : Int} (h : ¬ c1 m a n) (u : Int) (al : Int) (w : Bool) : L120 ((m, u, ()), (a, n, al, w), ()) = some (((w && (blk m a).1.2.2.1), ()), ()) := by
 obtain ⟨p1, p2, _⟩ := z2g h
 refine (F120_eq m u a.1 a.2 n al w).trans ?_
 cases w
 ·rfl
 ·exact (if_pos rfl).trans ((if_pos p1).trans (if_pos p2))
theorem z3f {A B : Type} {f : A → Option (A ⊕ B)} {x y : A} (h : f x = some (.inl y)) : limL f x = limL f y := by rw [limL_eq, h]
theorem z1q {A B : Type} {f : A → Option (A ⊕ B)} {x : A} {y : B} (h : f x = some (.inr y)) : limL f x = some y := by rw [limL_eq, h]
theorem z5D {m : List Bp} (hI : Inv m) (u : Int) (a : Int × Int) (n al : Int) (w : Bool) : L55 ((m, u, ()), (a, n, al, w), ()) = some ((kd m a n al w, ()), ()) := by
 refine (F55_eq L92 Lg55_4 m u a.1 a.2 n al w).trans ?_
 unfold kd
 by_cases hn : n ≤ 0
 ·rw [if_pos (decide_eq_true hn), if_pos hn]
 ·rw [if_neg (by rw [decide_eq_true_eq]; exact hn), if_neg hn]
  rw [show L92 () = _ from F92_eq]
  simp only [Option.bind_some]
  have e0 := z5c L117 L118 L119 L120 m u 14 15 16 17 0 a.1 a.2 n al w
  have e1 := z5c L117 L118 L119 L120 m u 14 15 16 17 1 a.1 a.2 n al w
  have e2 := z5c L117 L118 L119 L120 m u 14 15 16 17 2 a.1 a.2 n al w
  have e3 := z5c L117 L118 L119 L120 m u 14 15 16 17 3 a.1 a.2 n al w
  have e4 := z5c L117 L118 L119 L120 m u 14 15 16 17 4 a.1 a.2 n al w
  have w1 : IntKind.i64.wrap (0 + 1) = 1 := by decide
  have w2 : IntKind.i64.wrap (1 + 1) = 2 := by decide
  have w3 : IntKind.i64.wrap (2 + 1) = 3 := by decide
  have w4 : IntKind.i64.wrap (3 + 1) = 4 := by decide
  rw [if_pos (by decide), if_pos (by rfl), L117_val hI u (a.1, a.2), w1] at e0
  rw [if_pos (by decide), if_neg (by decide), if_pos (by rfl), w2] at e1
  rw [if_pos (by decide), if_neg (by decide), if_neg (by decide), if_pos (by rfl), w3] at e2
  rw [if_pos (by decide), if_neg (by decide), if_neg (by decide), if_neg (by decide), if_pos (by rfl), w4] at e3
  rw [if_neg (by decide)] at e4
  simp only [Option.bind_some] at e0
  show (limL (S55_4 L117 L118 L119 L120) _).bind _ = _
  by_cases h1 : c1 m a n
  ·rw [if_pos (decide_eq_true h1)] at e0
   rw [z1q e0, if_pos h1]
   rfl
  ·rw [if_neg (by rw [decide_eq_true_eq]; exact h1)] at e0
   rw [z3f e0, if_neg h1]
   rw [L118_val h1] at e1
   rw [L119_val h1] at e2
   rw [L120_val h1] at e3
   simp only [Option.bind_some] at e1 e2 e3
   by_cases h2 : (blk m a).1.2.2.2 = true
   ·rw [if_pos h2] at e1
    rw [z1q e1, if_pos h2]
    rfl
   ·rw [if_neg h2] at e1
    rw [z3f e1, if_neg h2]
    by_cases h3 : c3 m a al
    ·rw [if_pos (decide_eq_true h3)] at e2
     rw [z1q e2, if_pos h3]
     rfl
    ·rw [if_neg (by rw [decide_eq_true_eq]; exact h3)] at e2
     rw [z3f e2, if_neg h3]
     by_cases h4 : (w && (blk m a).1.2.2.1) = true
     ·rw [if_pos h4] at e3
      rw [z1q e3, if_pos h4]
      rfl
     ·rw [if_neg h4] at e3
      rw [z3f e3, if_neg h4, z1q e4]
      rfl
theorem z3N {m : List Bp} (hI : Inv m) (u : Int) (a : Int × Int) (n al : Int) (w : Bool) : L110 ((cv m, u, ()), a, n, al, w, ()) = some ((kd m a n al w, ()), ()) := by
 obtain ⟨x, y⟩ := a
 refine (F110_eq L106 (cv m) u x y n al w).trans ?_
 rw [z3O m u (x, y)]
 simp only [Option.bind_some]
 unfold kd
 by_cases hn : n ≤ 0
 ·rw [if_pos (decide_eq_true hn), if_pos hn]
 ·rw [if_neg (by rw [decide_eq_true_eq]; exact hn), if_neg hn]
  by_cases h0 : x < 0
  ·rw [if_pos (decide_eq_true h0), if_pos (show c1 m (x, y) n from .inl h0)]
  ·rw [if_neg (by rw [decide_eq_true_eq]; exact h0)]
   by_cases h1 : fm m.length (x, y) = true
   ·have h1' := h1
    unfold fm at h1'
    rw [decide_eq_true_eq] at h1'
    have p1 : 0 ≤ x := by omega
    have p2 : x < (m.length : Int) := by
     rcases h1' with q | q
     ·have : x = -1 := q.1
      omega
     ·exact q.2.1
    have hb := (hI.at x.toNat).1
    have hc := z2y (m := m) (k := x.toNat) (by omega)
    have hl : ((cv m).getD x.toNat dK).2.length = (m.getD x.toNat dB).2.length := by rw [hc]; simp [cvB]
    rw [if_neg (by rw [h1]; decide), if_pos p1, z0y, if_pos p2, hl]
    by_cases h2 : y < 0
    ·rw [if_pos (decide_eq_true h2), if_pos (show c1 m (x, y) n from .inr (.inr (.inl h2)))]
    ·rw [if_neg (by rw [decide_eq_true_eq]; exact h2)]
     by_cases h3 : ((m.getD x.toNat dB).2.length : Int) < y
     ·rw [if_pos (decide_eq_true h3), if_pos (show c1 m (x, y) n from .inr (.inr (.inr (.inl h3))))]
     ·rw [if_neg (by rw [decide_eq_true_eq]; exact h3), wi (by omega) (by omega)]
      by_cases h4 : ((m.getD x.toNat dB).2.length : Int) - y < n
      ·rw [if_pos (decide_eq_true h4), if_pos (show c1 m (x, y) n from .inr (.inr (.inr (.inr h4))))]
      ·rw [if_neg (by rw [decide_eq_true_eq]; exact h4)]
       have hc1 : ¬ c1 m (x, y) n := by
        rintro (q | q | q | q | q)
        ·exact h0 q
        ·rw [h1] at q; cases q
        ·exact h2 q
        ·exact h3 q
        ·exact h4 q
       rw [if_neg hc1]
       have k1 : ((cv m).getD x.toNat dK).1.2.2.2 = !(blk m (x, y)).1.2.2.2 := by rw [hc]; rfl
       have k2 : ((cv m).getD x.toNat dK).1.2.1 = (blk m (x, y)).1.2.1 := by rw [hc]; rfl
       have k3 : ((cv m).getD x.toNat dK).1.2.2.1 = (blk m (x, y)).1.2.2.1 := by rw [hc]; rfl
       rw [k1, k2, k3, Bool.not_not]
       by_cases h5 : (blk m (x, y)).1.2.2.2 = true
       ·rw [if_pos h5, if_pos h5]
       ·rw [if_neg h5, if_neg h5]
        have last : (if w = true then if (blk m (x, y)).1.2.2.1 = true then some (((17 : Int), ()), ()) else some ((-1, ()), ()) else some ((-1, ()), ()) : Option rs110.den) = some ((if (w && (blk m (x, y)).1.2.2.1) = true then 17 else -1, ()), ()) := by
         cases w
         ·rfl
         ·cases (blk m (x, y)).1.2.2.1 <;> rfl
        by_cases h6 : 0 < al
        ·rw [if_pos (decide_eq_true h6)]
         by_cases h7 : al > (blk m (x, y)).1.2.1
         ·rw [if_pos (decide_eq_true h7), if_pos (show c3 m (x, y) al from ⟨h6, .inl h7⟩)]
         ·rw [if_neg (by rw [decide_eq_true_eq]; exact h7), if_neg (by omega)]
          by_cases h8 : y.tmod al = 0
          ·rw [if_neg (by rw [h8]; decide), last, if_neg (show ¬ c3 m (x, y) al by rintro ⟨_, q | q⟩; exact h7 q; exact q h8)]
          ·rw [if_pos (by rw [Bool.not_eq_true', beq_eq_false_iff_ne]; exact h8), if_pos (show c3 m (x, y) al from ⟨h6, .inr h8⟩)]
        ·rw [if_neg (by rw [decide_eq_true_eq]; exact h6), last, if_neg (show ¬ c3 m (x, y) al from fun q => h6 q.1)]
   ·rw [if_pos (by simpa using h1), if_pos (show c1 m (x, y) n from .inr (.inl (by simpa using h1)))]
theorem z0X {m : List Bp} {a : Int × Int} {n al : Int} {w : Bool} (h : kd m a n al w = -1) (hn : 0 < n) : ¬ c1 m a n := by
 intro q
 unfold kd at h
 rw [if_neg (by omega), if_pos q] at h
 cases h
end Go.Proofs.Rf
namespace Go.Proofs.Rf
open Go Go.RowKit
def fstZ (z : Int) : List Int → Int
 | [] => z
 | a :: r => if a = z then fstZ z r else a
theorem fstZ_drop (z : Int) {l : List Int} {i : Nat} (h : i < l.length) : fstZ z (l.drop i) = if l.getD i 0 = z then fstZ z (l.drop (i + 1)) else l.getD i 0 := by
 rw [List.drop_eq_getElem_cons h, z1s 0 h]
 rfl
theorem z8e {f : (List Int × Int × Int × Unit) × Unit → Option (((List Int × Int × Int × Unit) × Unit) ⊕ (((Int × Unit) × Unit) ⊕ (Unit × Unit)))} (z : Int)
  (hf : ∀ l n i, f ((l, n, i, ()), ()) = (if decide (i < n) = true then
   if 0 ≤ i then
    if i < (l.length : Int) then
     if (!l.getD i.toNat 0 == z) = true then some (Sum.inr (Sum.inl ((l.getD i.toNat 0, ()), ())))
     else some (Sum.inl ((l, n, IntKind.i64.wrap (i + 1), ()), ()))
    else none
   else none
  else some (Sum.inr (Sum.inr ((), ()))))) (l : List Int) (hl : l.length ≤ 1000) :
  ((limL f ((l, (l.length : Int), 0, ()), ())).bind fun y => Sum.elim (fun y => some ((y.1.1, ()), ())) (fun _ => some ((z, ()), ())) y : Option ((Int × Unit) × Unit)) = some ((fstZ z l, ()), ()) := by
 obtain ⟨r, h1, h2⟩ := z0P (f := f) (fun x => l.length - x.1.2.2.1.toNat) (fun x => ∃ i : Nat, i ≤ l.length ∧ x = ((l, (l.length : Int), (i : Int), ()), ()) ∧ fstZ z l = fstZ z (l.drop i))
  (fun r => (Sum.elim (fun y => some ((y.1.1, ()), ())) (fun _ => some ((z, ()), ())) r : Option ((Int × Unit) × Unit)) = some ((fstZ z l, ()), ())) (by
  rintro x ⟨i, hi, rfl, he⟩
  rw [hf]
  by_cases h : i < l.length
  ·rw [if_pos (decide_eq_true (by omega)), if_pos (by omega), if_pos (by omega), Int.toNat_natCast]
   rw [fstZ_drop z h] at he
   by_cases hz : l.getD i 0 = z
   ·rw [if_pos hz] at he
    rw [if_neg (by rw [hz]; simp), wi (by omega) (by omega)]
    refine .inl ⟨_, rfl, ⟨i + 1, by omega, rfl, he⟩, ?_⟩
    show l.length - ((i : Int) + 1).toNat < l.length - (i : Int).toNat
    omega
   ·rw [if_neg hz] at he
    rw [if_pos (by rw [Bool.not_eq_true', beq_eq_false_iff_ne]; exact hz), he]
    exact .inr ⟨_, rfl, rfl⟩
  ·rw [if_neg (by rw [decide_eq_true_eq]; omega), he, List.drop_of_length_le (by omega)]
   exact .inr ⟨_, rfl, rfl⟩) ((l, (l.length : Int), ((0 : Nat) : Int), ()), ()) ⟨0, by omega, rfl, by rw [List.drop_zero]⟩
 have h1 : limL f ((l, (l.length : Int), 0, ()), ()) = some r := h1
 rw [h1]
 exact h2
theorem L48_val (l : List Int) (hl : l.length ≤ 1000) : L48 (l, ()) = some ((fstZ 0 l, ()), ()) :=
 (F48_eq Lg48_2 l).trans (z8e (f := S48_2) 0 S48_2_eq l hl)
theorem L59_val (l : List Int) (hl : l.length ≤ 1000) : L59 (l, ()) = some ((fstZ (-1) l, ()), ()) :=
 (F59_eq Lg59_2 l).trans (z8e (f := S59_2) (-1) S59_2_eq l hl)
theorem L100_val (l : List Int) (hl : l.length ≤ 1000) : L100 (l, ()) = some ((fstZ 0 l, ()), ()) := by
 refine (F100_eq Lg100_2 l).trans ?_
 obtain ⟨r, h1, h2⟩ := z0P (f := S100_2) (fun x => l.length - x.1.2.1.toNat) (fun x => ∃ i : Nat, i ≤ l.length ∧ x = ((l, (i : Int), ()), ()) ∧ fstZ 0 l = fstZ 0 (l.drop i))
  (fun r => (Sum.elim (fun y => some ((y.1.1, ()), ())) (fun _ => some ((0, ()), ())) r : Option rs100.den) = some ((fstZ 0 l, ()), ())) (by
  rintro x ⟨i, hi, rfl, he⟩
  rw [S100_2_eq]
  by_cases h : i < l.length
  ·have q1 : (0 : Int) ≤ (i : Int) := by omega
   have q2 : (i : Int) < (l.length : Int) := by omega
   rw [if_pos (decide_eq_true q2)]
   simp only [if_pos q1, if_pos q2, Int.toNat_natCast]
   rw [fstZ_drop 0 h] at he
   by_cases hz : l.getD i 0 = 0
   ·rw [if_pos hz] at he
    rw [if_neg (by rw [hz]; simp), wi (by omega) (by omega)]
    refine .inl ⟨_, rfl, ⟨i + 1, by omega, rfl, he⟩, ?_⟩
    show l.length - ((i : Int) + 1).toNat < l.length - (i : Int).toNat
    omega
   ·rw [if_neg hz] at he
    rw [if_pos (by rw [Bool.not_eq_true', beq_eq_false_iff_ne]; exact hz), he]
    exact .inr ⟨_, rfl, rfl⟩
  ·rw [if_neg (by rw [decide_eq_true_eq]; omega), he, List.drop_of_length_le (by omega)]
   exact .inr ⟨_, rfl, rfl⟩) ((l, ((0 : Nat) : Int), ()), ()) ⟨0, by omega, rfl, by rw [List.drop_zero]⟩
 have h1 : Lg100_2 ((l, 0, ()), ()) = some r := h1
 rw [h1]
 exact h2
theorem z7w (b : Bool) (e : Int) : L49 (b, e, ()) = some ((if b = true then e else 0, ()), ()) := by
 refine (F49_eq b e).trans ?_
 cases b <;> rfl
theorem L101_val (b : Bool) (e : Int) : L101 (b, e, ()) = some ((if b = true then e else 0, ()), ()) := by
 refine (F101_eq b e).trans ?_
 cases b <;> rfl
def ial (n : Int) : Bool := decide (n = 1 ∨ n = 2 ∨ n = 4 ∨ n = 8 ∨ n = 16)
theorem L50_val (n : Int) : L50 (n, ()) = some ((ial n, ()), ()) := by
 refine (F50_eq L90 n).trans ?_
 have h90 : L90 ([1, 2, 4, 8, 16], n, ()) = some ((ial n, ()), ()) := by
  refine (F90_eq L115 _ n).trans ?_
  have h115 : L115 ([1, 2, 4, 8, 16], n, ()) = some ((if n = 1 then 0 else if n = 2 then 1 else if n = 4 then 2 else if n = 8 then 3 else if n = 16 then 4 else -1, ()), ()) := by
   refine (F115_eq Lg115_2 _ n).trans ?_
   show (limL S115_2 (([1, 2, 4, 8, 16], n, 5, 0, ()), ())).bind _ = _
   have e0 := z2V [1, 2, 4, 8, 16] n 5 0
   have e1 := z2V [1, 2, 4, 8, 16] n 5 1
   have e2 := z2V [1, 2, 4, 8, 16] n 5 2
   have e3 := z2V [1, 2, 4, 8, 16] n 5 3
   have e4 := z2V [1, 2, 4, 8, 16] n 5 4
   have e5 := z2V [1, 2, 4, 8, 16] n 5 5
   rw [if_pos (by decide), if_pos (by decide), if_pos (by decide)] at e0 e1 e2 e3 e4
   rw [if_neg (by decide)] at e5
   have w0 : IntKind.i64.wrap (0 + 1) = 1 := by decide
   have w1 : IntKind.i64.wrap (1 + 1) = 2 := by decide
   have w2 : IntKind.i64.wrap (2 + 1) = 3 := by decide
   have w3 : IntKind.i64.wrap (3 + 1) = 4 := by decide
   have w4 : IntKind.i64.wrap (4 + 1) = 5 := by decide
   rw [w0, show ([1, 2, 4, 8, 16] : List Int).getD (Int.toNat 0) 0 = 1 from rfl] at e0
   rw [w1, show ([1, 2, 4, 8, 16] : List Int).getD (Int.toNat 1) 0 = 2 from rfl] at e1
   rw [w2, show ([1, 2, 4, 8, 16] : List Int).getD (Int.toNat 2) 0 = 4 from rfl] at e2
   rw [w3, show ([1, 2, 4, 8, 16] : List Int).getD (Int.toNat 3) 0 = 8 from rfl] at e3
   rw [w4, show ([1, 2, 4, 8, 16] : List Int).getD (Int.toNat 4) 0 = 16 from rfl] at e4
   by_cases h1 : n = 1
   ·rw [if_pos (by rw [h1]; rfl)] at e0
    rw [z1q e0, if_pos h1]; rfl
   ·rw [if_neg (show ¬ (n == 1) = true by rw [beq_iff_eq]; exact h1)] at e0
    rw [z3f e0, if_neg h1]
    by_cases h2 : n = 2
    ·rw [if_pos (by rw [h2]; rfl)] at e1
     rw [z1q e1, if_pos h2]; rfl
    ·rw [if_neg (show ¬ (n == 2) = true by rw [beq_iff_eq]; exact h2)] at e1
     rw [z3f e1, if_neg h2]
     by_cases h4 : n = 4
     ·rw [if_pos (by rw [h4]; rfl)] at e2
      rw [z1q e2, if_pos h4]; rfl
     ·rw [if_neg (show ¬ (n == 4) = true by rw [beq_iff_eq]; exact h4)] at e2
      rw [z3f e2, if_neg h4]
      by_cases h8 : n = 8
      ·rw [if_pos (by rw [h8]; rfl)] at e3
       rw [z1q e3, if_pos h8]; rfl
      ·rw [if_neg (show ¬ (n == 8) = true by rw [beq_iff_eq]; exact h8)] at e3
       rw [z3f e3, if_neg h8]
       by_cases h16 : n = 16
       ·rw [if_pos (by rw [h16]; rfl)] at e4
        rw [z1q e4, if_pos h16]; rfl
       ·rw [if_neg (show ¬ (n == 16) = true by rw [beq_iff_eq]; exact h16)] at e4
        rw [z3f e4, if_neg h16, z1q e5]; rfl
  rw [h115]
  simp only [Option.bind_some]
  congr 3
  unfold ial
  rw [decide_eq_decide]
  split
  ·simp_all
  ·split
   ·simp_all
   ·split
    ·simp_all
    ·split
     ·simp_all
     ·split <;> simp_all
 rw [h90]
 rfl
theorem L102_val (n : Int) : L102 (n, ()) = some ((ial n, ()), ()) := by
 refine (F102_eq n).trans ?_
 unfold ial
 by_cases h1 : n = 1
 ·rw [if_pos (by rw [beq_iff_eq]; exact h1), decide_eq_true (.inl h1)]
 ·rw [if_neg (by rw [beq_iff_eq]; exact h1)]
  by_cases h2 : n = 2
  ·rw [if_pos (by rw [beq_iff_eq]; exact h2), decide_eq_true (.inr (.inl h2))]
  ·rw [if_neg (by rw [beq_iff_eq]; exact h2)]
   by_cases h3 : n = 4
   ·rw [if_pos (by rw [beq_iff_eq]; exact h3), decide_eq_true (.inr (.inr (.inl h3)))]
   ·rw [if_neg (by rw [beq_iff_eq]; exact h3)]
    by_cases h4 : n = 8
    ·rw [if_pos (by rw [beq_iff_eq]; exact h4), decide_eq_true (.inr (.inr (.inr (.inl h4))))]
    ·rw [if_neg (by rw [beq_iff_eq]; exact h4)]
     congr 3
     rw [Bool.eq_iff_iff, beq_iff_eq, decide_eq_true_eq]
     omega
def cn (s : Int) : Int := (s + 15) / 16 * 16 + 16
theorem cn_form {s : Int} (h0 : 0 ≤ s) (h1 : s ≤ 65536) : IntKind.i64.wrap (IntKind.i64.wrap (IntKind.i64.wrap ((IntKind.i64.wrap (s + 15)).tdiv 16) * 16) + 16) = cn s := by
 unfold cn
 rw [wi (n := s + 15) (by omega) (by omega), Int.tdiv_eq_ediv_of_nonneg (by omega), wi (n := (s + 15) / 16) (by omega) (by omega), wi (n := (s + 15) / 16 * 16) (by omega) (by omega), wi (by omega) (by omega)]
theorem cn_lo {s : Int} (h0 : 0 ≤ s) : 16 ≤ cn s := by unfold cn; omega
theorem cn_hi {s : Int} (h1 : s ≤ 65536) : cn s ≤ 65552 := by unfold cn; omega
theorem L68_val {s : Int} (h0 : 0 ≤ s) (h1 : s ≤ 65536) : L68 (s, ()) = some ((cn s, ()), ()) := by
 refine (F68_eq s).trans ?_
 rw [cn_form h0 h1]
theorem L105_val {s : Int} (h0 : 0 ≤ s) (h1 : s ≤ 65536) : L105 (s, ()) = some ((cn s, ()), ()) := by
 refine (F105_eq s).trans ?_
 rw [cn_form h0 h1]
def newB (k al : Int) (c : Bool) (s : Int) : Bp := ((k, al, c, false), List.replicate s.toNat zC)
theorem cv_new (m : List Bp) (k al : Int) (c : Bool) (s : Int) : cv (m ++ [newB k al c s]) = cv m ++ [((k, al, c, true), List.replicate s.toNat zK)] := by
 unfold cv newB cvB
 rw [List.map_append, List.map_singleton]
 simp only [List.map_replicate]
 rfl
def plU (k s u : Int) : Int := if k = 0 then u + cn s else u
structure Stp (m : List Bp) (u : Int) (hp : Prop) (m' : List Bp) (u' : Int) : Prop where
 inv : Inv m'
 len : m'.length ≤ m.length + 1
 lo : u - 70000 ≤ u'
 hi : u' ≤ u + 70000
 cap : ¬ hp → u ≤ 65536 → u' ≤ 65536
theorem Stp.same {m : List Bp} {u : Int} {hp : Prop} (h : Inv m) : Stp m u hp m u := ⟨h, by omega, by omega, by omega, fun _ q => q⟩
theorem Inv.new {m : List Bp} (h : Inv m) (hl : m.length < 1000) {k al : Int} {c : Bool} {s : Int} (h1 : s ≤ 65536) : Inv (m ++ [newB k al c s]) := by
 refine ⟨by simp; omega, fun b hb => ?_⟩
 rcases List.mem_append.1 hb with hb | hb
 ·exact h.bl b hb
 ·rw [List.mem_singleton] at hb
  subst hb
  refine ⟨by show (List.replicate s.toNat zC).length ≤ 65536; rw [List.length_replicate]; omega, fun c hc => ?_⟩
  have hc : c ∈ List.replicate s.toNat zC := hc
  rw [List.mem_replicate] at hc
  exact .inl hc.2
theorem L52_val {m : List Bp} (hl : m.length < 1000) {u k al : Int} {c : Bool} {s : Int} (h0 : 0 ≤ s) (h1 : s ≤ 65536) (hu0 : -1000000000 ≤ u) (hu1 : u ≤ 1000000000) :
  L52 (((), (k, al, c), s, ()), ((), u, ()), m, ()) = some (((), ((m.length : Int), 0), 0, ()), ((), plU k s u, ()), m ++ [newB k al c s], ()) := by
 refine (F52_eq L51 L68 k al c s u m).trans ?_
 have q1 := cn_lo h0
 have q2 := cn_hi h1
 rw [if_neg (show ¬ decide ((m.length : Int) ≥ 100000) = true by rw [decide_eq_true_eq]; omega), if_pos h0, if_pos (Int.le_refl _), if_pos (show s ≤ ((4294967296 : Nat) : Int) by omega), if_pos (by simp; omega)]
 have e1 : IntKind.i64.wrap (((m ++ [((k, al, c, false), List.replicate s.toNat (0, 0, 0, 0))] : List Bp).length : Int) - 1) = (m.length : Int) := by
  rw [List.length_append, List.length_singleton, wi (by omega) (by omega)]
  omega
 unfold plU
 by_cases hk : k = 0
 ·rw [if_pos (by rw [beq_iff_eq]; exact hk), if_pos hk, L68_val h0 h1]
  simp only [Option.bind_some]
  rw [wi (n := u + cn s) (by omega) (by omega), e1]
  rfl
 ·rw [if_neg (by rw [beq_iff_eq]; exact hk), if_neg hk, e1]
  rfl
theorem L104_val {m : List Bp} (hl : m.length < 1000) {u k al : Int} {c : Bool} {s : Int} (h0 : 0 ≤ s) (h1 : s ≤ 65536) (hu0 : -1000000000 ≤ u) (hu1 : u ≤ 1000000000) :
  L104 (((), k, s, al, c, ()), ((), u, ()), cv m, ()) = some (((), ((m.length : Int), 0), ()), ((), plU k s u, ()), cv (m ++ [newB k al c s]), ()) := by
 refine (F104_eq L105 k s al c u (cv m)).trans ?_
 have q1 := cn_lo h0
 have q2 := cn_hi h1
 rw [if_pos h0, if_pos (Int.le_refl _), if_pos (show s ≤ ((4294967296 : Nat) : Int) by omega), if_pos (by rw [z0y]; simp; omega)]
 have e1 : IntKind.i64.wrap (((cv m ++ [((k, al, c, true), List.replicate s.toNat (0, 0, (0, 0), 0))] : List Br).length : Int) - 1) = (m.length : Int) := by
  rw [List.length_append, List.length_singleton, z0y, wi (by omega) (by omega)]
  omega
 unfold plU
 rw [cv_new]
 by_cases hk : k = 0
 ·rw [if_pos (by rw [beq_iff_eq]; exact hk), if_pos hk, L105_val h0 h1]
  simp only [Option.bind_some]
  rw [wi (n := u + cn s) (by omega) (by omega), e1]
 ·rw [if_neg (by rw [beq_iff_eq]; exact hk), if_neg hk, e1]
  rfl
theorem plU_stp {m : List Bp} (hI : Inv m) (hl : m.length < 1000) {u k al : Int} {c : Bool} {s : Int} (h0 : 0 ≤ s) (h1 : s ≤ 65536) {hp : Prop} (hh : k = 0 → hp ∨ u + cn s ≤ 65536) : Stp m u hp (m ++ [newB k al c s]) (plU k s u) := by
 have q1 := cn_lo h0
 have q2 := cn_hi h1
 refine ⟨hI.new hl h1, by simp, ?_, ?_, fun hn hu => ?_⟩
 ·unfold plU; split <;> omega
 ·unfold plU; split <;> omega
 ·unfold plU
  split
  ·rename_i hk
   rcases hh hk with q | q
   ·exact absurd q hn
   ·exact q
  ·exact hu
end Go.Proofs.Rf
namespace Go.Proofs.Rf
open Go Go.RowKit
theorem z1g {A : Type} (x : Option A) : (x.bind fun z => some z) = x := by cases x <;> rfl
def eAdd (k s al : Int) : Int := if k < 0 ∨ 3 ≤ k then 11 else if s < 0 ∨ 65536 < s ∨ ial al = false then 3 else 0
theorem L14_val {m : List Bp} (hl : m.length < 1000) {u k s al : Int} {c : Bool} (hu0 : -1000000000 ≤ u) (hu1 : u ≤ 1000000000) :
  L14 (((), k, s, al, c, ()), ((), u, ()), m, ()) = some (if eAdd k s al = 0 then (((), ((m.length : Int), 0), 0, ()), ((), plU k s u, ()), m ++ [newB k al c s], ()) else (((), (-1, 0), eAdd k s al, ()), ((), u, ()), m, ())) := by
 have h48 : ∀ a b : Int, L48 ([a, b], ()) = some ((fstZ 0 [a, b], ()), ()) := fun a b => L48_val _ (by simp)
 have h49 : ∀ b e, L49 (b, e, ()) = _ := fun b e => z7w b e
 have h50 : L50 (al, ()) = _ := L50_val al
 have h51 : L51 () = _ := z1M
 have h52 : 0 ≤ s → s ≤ 65536 → L52 (((), (k, al, c), s, ()), ((), u, ()), m, ()) = _ := fun q1 q2 => L52_val hl q1 q2 hu0 hu1
 refine (F14_eq L48 L49 L50 L51 L52 k s al c u m).trans ?_
 rw [z1g]
 unfold eAdd
 by_cases k1 : k < 0
 ·rw [if_pos (decide_eq_true k1), h49]
  simp only [Option.bind_some, if_true]
  rw [if_pos (show k < 0 ∨ 3 ≤ k from .inl k1)]
  have hh : ∀ e : Int, L48 ([11, e], ()) = some ((11, ()), ()) := fun e => h48 11 e
  split
  ·rw [h49]; simp only [Option.bind_some, if_true]; rw [hh]; simp only [Option.bind_some]; rw [h51]; rfl
  ·split
   ·rw [h49]; simp only [Option.bind_some, if_true]; rw [hh]; simp only [Option.bind_some]; rw [h51]; rfl
   ·rw [h50]; simp only [Option.bind_some]; rw [h49]; simp only [Option.bind_some]; rw [hh]; simp only [Option.bind_some]; rw [h51]; rfl
 ·rw [if_neg (by rw [decide_eq_true_eq]; exact k1), h49]
  simp only [Option.bind_some]
  by_cases k2 : 3 ≤ k
  ·rw [if_pos (show decide (k ≥ 3) = true from decide_eq_true k2), if_pos (show k < 0 ∨ 3 ≤ k from .inr k2)]
   have hh : ∀ e : Int, L48 ([11, e], ()) = some ((11, ()), ()) := fun e => h48 11 e
   split
   ·rw [h49]; simp only [Option.bind_some, if_true]; rw [hh]; simp only [Option.bind_some]; rw [h51]; rfl
   ·split
    ·rw [h49]; simp only [Option.bind_some, if_true]; rw [hh]; simp only [Option.bind_some]; rw [h51]; rfl
    ·rw [h50]; simp only [Option.bind_some]; rw [h49]; simp only [Option.bind_some]; rw [hh]; simp only [Option.bind_some]; rw [h51]; rfl
  ·rw [if_neg (show ¬ decide (k ≥ 3) = true by rw [decide_eq_true_eq]; exact k2), if_neg (show ¬ (k < 0 ∨ 3 ≤ k) by omega)]
   have hh : L48 ([0, 3], ()) = some ((3, ()), ()) := h48 0 3
   have hz : L48 ([0, 0], ()) = some ((0, ()), ()) := h48 0 0
   by_cases s1 : s < 0
   ·rw [if_pos (decide_eq_true s1), if_pos (show s < 0 ∨ _ from .inl s1), h49]; simp only [Option.bind_some, if_true]; rw [hh]; simp only [Option.bind_some]; rw [h51]; rfl
   ·rw [if_neg (by rw [decide_eq_true_eq]; exact s1)]
    by_cases s2 : 65536 < s
    ·rw [if_pos (decide_eq_true s2), if_pos (show s < 0 ∨ 65536 < s ∨ _ from .inr (.inl s2)), h49]; simp only [Option.bind_some, if_true]; rw [hh]; simp only [Option.bind_some]; rw [h51]; rfl
    ·rw [if_neg (show ¬ decide (s > 65536) = true by rw [decide_eq_true_eq]; exact s2), h50]
     simp only [Option.bind_some]
     rw [h49]
     simp only [Option.bind_some]
     cases ha : ial al with
     | false =>
      rw [if_pos (show s < 0 ∨ 65536 < s ∨ false = false from .inr (.inr rfl))]
      simp only [Bool.not_false, if_true]
      rw [hh]; simp only [Option.bind_some]; rw [h51]; rfl
     | true =>
      rw [if_neg (show ¬ (s < 0 ∨ 65536 < s ∨ true = false) by rintro (q | q | q); exact s1 q; exact s2 q; cases q)]
      simp only [Bool.not_true, Bool.false_eq_true, if_false]
      rw [hz]; simp only [Option.bind_some]; rw [h52 (by omega) (by omega)]; rfl
theorem L71_val {m : List Bp} (hl : m.length < 1000) {u k s al : Int} {c : Bool} (hu0 : -1000000000 ≤ u) (hu1 : u ≤ 1000000000) :
  L71 (((), k, s, al, c, ()), ((), u, ()), cv m, ()) = some (if eAdd k s al = 0 then (((), ((m.length : Int), 0), 0, ()), ((), plU k s u, ()), cv (m ++ [newB k al c s]), ()) else (((), (-1, 0), eAdd k s al, ()), ((), u, ()), cv m, ())) := by
 have h48 : ∀ a b d : Int, L100 ([a, b, d], ()) = some ((fstZ 0 [a, b, d], ()), ()) := fun a b d => L100_val _ (by simp)
 have h49 : ∀ b e, L101 (b, e, ()) = _ := fun b e => L101_val b e
 have h50 : L102 (al, ()) = _ := L102_val al
 have h51 : L103 () = _ := z3P
 have h52 : 0 ≤ s → s ≤ 65536 → L104 (((), k, s, al, c, ()), ((), u, ()), cv m, ()) = _ := fun q1 q2 => L104_val hl q1 q2 hu0 hu1
 have hc : L101 (decide (((cv m).length : Int) ≥ 100000), 22, ()) = some ((0, ()), ()) := by
  rw [h49, if_neg (show ¬ decide (((cv m).length : Int) ≥ 100000) = true by rw [decide_eq_true_eq, z0y]; omega)]
 refine (F71_eq L100 L101 L102 L103 L104 k s al c u (cv m)).trans ?_
 rw [z1g]
 unfold eAdd
 by_cases k1 : k < 0
 ·rw [if_pos (decide_eq_true k1), h49 true 11]
  simp only [Option.bind_some, if_true]
  rw [if_pos (show k < 0 ∨ 3 ≤ k from .inl k1)]
  have hh : ∀ e d : Int, L100 ([11, e, d], ()) = some ((11, ()), ()) := fun e d => h48 11 e d
  split
  ·rw [h49 true 3, hc]; simp only [Option.bind_some, if_true]; rw [hh]; simp only [Option.bind_some]; rw [h51]; rfl
  ·split
   ·rw [h49 true 3, hc]; simp only [Option.bind_some, if_true]; rw [hh]; simp only [Option.bind_some]; rw [h51]; rfl
   ·rw [h50, hc]; simp only [Option.bind_some]; rw [h49 _ 3]; simp only [Option.bind_some]; rw [hh]; simp only [Option.bind_some]; rw [h51]; rfl
 ·rw [if_neg (by rw [decide_eq_true_eq]; exact k1), h49 _ 11]
  simp only [Option.bind_some]
  by_cases k2 : 3 ≤ k
  ·rw [if_pos (show decide (k ≥ 3) = true from decide_eq_true k2), if_pos (show k < 0 ∨ 3 ≤ k from .inr k2)]
   have hh : ∀ e d : Int, L100 ([11, e, d], ()) = some ((11, ()), ()) := fun e d => h48 11 e d
   split
   ·rw [h49 true 3, hc]; simp only [Option.bind_some, if_true]; rw [hh]; simp only [Option.bind_some]; rw [h51]; rfl
   ·split
    ·rw [h49 true 3, hc]; simp only [Option.bind_some, if_true]; rw [hh]; simp only [Option.bind_some]; rw [h51]; rfl
    ·rw [h50, hc]; simp only [Option.bind_some]; rw [h49 _ 3]; simp only [Option.bind_some]; rw [hh]; simp only [Option.bind_some]; rw [h51]; rfl
  ·rw [if_neg (show ¬ decide (k ≥ 3) = true by rw [decide_eq_true_eq]; exact k2), if_neg (show ¬ (k < 0 ∨ 3 ≤ k) by omega)]
   have hh : L100 ([0, 3, 0], ()) = some ((3, ()), ()) := h48 0 3 0
   have hz : L100 ([0, 0, 0], ()) = some ((0, ()), ()) := h48 0 0 0
   by_cases s1 : s < 0
   ·rw [if_pos (decide_eq_true s1), if_pos (show s < 0 ∨ _ from .inl s1), h49 true 3, hc]; simp only [Option.bind_some, if_true]; rw [hh]; simp only [Option.bind_some]; rw [h51]; rfl
   ·rw [if_neg (by rw [decide_eq_true_eq]; exact s1)]
    by_cases s2 : 65536 < s
    ·rw [if_pos (decide_eq_true s2), if_pos (show s < 0 ∨ 65536 < s ∨ _ from .inr (.inl s2)), h49 true 3, hc]; simp only [Option.bind_some, if_true]; rw [hh]; simp only [Option.bind_some]; rw [h51]; rfl
    ·rw [if_neg (show ¬ decide (s > 65536) = true by rw [decide_eq_true_eq]; exact s2), h50, hc]
     simp only [Option.bind_some]
     rw [h49 _ 3]
     simp only [Option.bind_some]
     cases ha : ial al with
     | false =>
      rw [if_pos (show s < 0 ∨ 65536 < s ∨ false = false from .inr (.inr rfl))]
      simp only [Bool.not_false, if_true]
      rw [hh]; simp only [Option.bind_some]; rw [h51]; rfl
     | true =>
      rw [if_neg (show ¬ (s < 0 ∨ 65536 < s ∨ true = false) by rintro (q | q | q); exact s1 q; exact s2 q; cases q)]
      simp only [Bool.not_true, Bool.false_eq_true, if_false]
      rw [hz]; simp only [Option.bind_some]; rw [h52 (by omega) (by omega)]; rfl
theorem add_ok {m : List Bp} (hI : Inv m) (hl : m.length < 1000) {u k s al : Int} {c : Bool} (hu0 : -1000000000 ≤ u) (hu1 : u ≤ 1000000000) :
  ∃ ad e m' u', L14 (((), k, s, al, c, ()), ((), u, ()), m, ()) = some (((), ad, e, ()), ((), u', ()), m', ()) ∧ L71 (((), k, s, al, c, ()), ((), u, ()), cv m, ()) = some (((), ad, e, ()), ((), u', ()), cv m', ()) ∧ Stp m u (k = 0) m' u' := by
 have e1 := L14_val hl (u := u) (k := k) (s := s) (al := al) (c := c) hu0 hu1
 have e2 := L71_val hl (u := u) (k := k) (s := s) (al := al) (c := c) hu0 hu1
 by_cases h : eAdd k s al = 0
 ·rw [if_pos h] at e1 e2
  refine ⟨_, _, _, _, e1, e2, ?_⟩
  unfold eAdd at h
  split at h
  ·cases h
  ·split at h
   ·cases h
   ·rename_i q
    exact plU_stp hI hl (by omega) (by omega) (fun q => .inl q)
 ·rw [if_neg h] at e1 e2
  exact ⟨_, _, _, _, e1, e2, .same hI⟩
theorem alloc_ok {m : List Bp} (hI : Inv m) (hl : m.length < 1000) {u s al : Int} (h0 : 0 ≤ s) (hu0 : -1000000000 ≤ u) (hu1 : u ≤ 1000000000) :
  ∃ ad e m' u', L27 (((), s, al, ()), ((), u, ()), m, ()) = some (((), ad, e, ()), ((), u', ()), m', ()) ∧ L72 (((), s, al, ()), ((), u, ()), cv m, ()) = some (((), ad, e, ()), ((), u', ()), cv m', ()) ∧ Stp m u False m' u' := by
 have e1 : L27 _ = _ := F27_eq L50 L51 L52 L68 s al u m
 have e2 : L72 _ = _ := F72_eq L102 L103 L104 L105 s al u (cv m)
 rw [z1g] at e1 e2
 have h50 : L50 (al, ()) = _ := L50_val al
 have h102 : L102 (al, ()) = _ := L102_val al
 rw [h50] at e1
 rw [h102] at e2
 simp only [Option.bind_some] at e1 e2
 have h51 : L51 () = _ := z1M
 have h103 : L103 () = _ := z3P
 by_cases ha : ial al = true
 ·rw [ha, if_neg (by decide)] at e1 e2
  by_cases hs : s > 65536
  ·rw [if_pos (decide_eq_true hs)] at e1 e2
   rw [h51] at e1
   rw [h103] at e2
   exact ⟨_, _, _, _, e1, e2, .same hI⟩
  ·have hs' : s ≤ 65536 := by omega
   have q1 := cn_lo h0
   have q2 := cn_hi hs'
   rw [if_neg (by rw [decide_eq_true_eq]; exact hs), wi (n := s) (by omega) (by omega)] at e1 e2
   have h68 : L68 (s, ()) = _ := L68_val h0 hs'
   have h105 : L105 (s, ()) = _ := L105_val h0 hs'
   rw [h68] at e1
   rw [h105] at e2
   simp only [Option.bind_some] at e1 e2
   rw [wi (n := u + cn s) (by omega) (by omega)] at e1 e2
   by_cases hc : u + cn s > 65536
   ·rw [if_pos (decide_eq_true hc)] at e1 e2
    rw [h51] at e1
    rw [h103] at e2
    exact ⟨_, _, _, _, e1, e2, .same hI⟩
   ·rw [if_neg (by rw [decide_eq_true_eq]; exact hc)] at e1 e2
    rw [if_neg (show ¬ decide (((cv m).length : Int) ≥ 100000) = true by rw [decide_eq_true_eq, z0y]; omega)] at e2
    have h52 : L52 (((), (0, al, false), s, ()), ((), u, ()), m, ()) = _ := L52_val hl h0 hs' hu0 hu1
    have h104 : L104 (((), 0, s, al, false, ()), ((), u, ()), cv m, ()) = _ := L104_val hl h0 hs' hu0 hu1
    rw [h52] at e1
    rw [h104] at e2
    exact ⟨_, _, _, _, e1, e2, plU_stp hI hl h0 hs' (fun _ => .inr (by omega))⟩
 ·have ha : ial al = false := by simpa using ha
  rw [ha, if_pos (by decide)] at e1 e2
  rw [h51] at e1
  rw [h103] at e2
  exact ⟨_, _, _, _, e1, e2, .same hI⟩
def endB (b : Bp) : Bp := ((b.1.1, b.1.2.1, b.1.2.2.1, true), b.2)
def endM (m : List Bp) (n : Int) : List Bp := m.set n.toNat (endB (m.getD n.toNat dB))
def endU (m : List Bp) (n u : Int) : Int := if (m.getD n.toNat dB).1.1 = 0 then u - cn ((m.getD n.toNat dB).2.length) else u
theorem z6d {A : Type} (l : List A) (k j : Nat) (x d : A) (h : k < l.length) : (l.set k x).getD j d = if j = k then x else l.getD j d := by
 rw [List.getD_eq_getElem?_getD, List.getD_eq_getElem?_getD, List.getElem?_set]
 by_cases hj : j = k
 ·subst hj
  simp [h]
 ·rw [if_neg hj, if_neg (fun q => hj q.symm)]
theorem cv_set (m : List Bp) (k : Nat) (b : Bp) : cv (m.set k b) = (cv m).set k (cvB b) := by
 unfold cv
 rw [List.map_set]
theorem Inv.set {m : List Bp} (h : Inv m) (k : Nat) {b : Bp} (hb : b.2.length ≤ 65536 ∧ ∀ c ∈ b.2, wfC c) : Inv (m.set k b) := by
 refine ⟨by rw [List.length_set]; exact h.len, fun x hx => ?_⟩
 rcases List.mem_or_eq_of_mem_set hx with hx | hx
 ·exact h.bl x hx
 ·subst hx
  exact hb
theorem end_stp {m : List Bp} (hI : Inv m) {u : Int} {hp : Prop} (n : Int) : Stp m u hp (endM m n) (endU m n u) := by
 have hb := hI.at n.toNat
 have q1 := cn_lo (s := ((m.getD n.toNat dB).2.length : Int)) (by omega)
 have q2 := cn_hi (s := ((m.getD n.toNat dB).2.length : Int)) (by omega)
 refine ⟨hI.set _ hb, by unfold endM; rw [List.length_set]; omega, ?_, ?_, fun _ hu => ?_⟩
 all_goals (unfold endU; split <;> omega)
theorem L67_val {m : List Bp} (hI : Inv m) {u n : Int} (h0 : 0 ≤ n) (h1 : n < m.length) (hu0 : -1000000000 ≤ u) (hu1 : u ≤ 1000000000) :
  L67 (((), n, ()), ((), u, ()), m, ()) = some (((), ()), ((), endU m n u, ()), endM m n, ()) := by
 refine (F67_eq L68 n u m).trans ?_
 have hb := (hI.at n.toNat).1
 have q1 := cn_lo (s := ((m.getD n.toNat dB).2.length : Int)) (by omega)
 have q2 := cn_hi (s := ((m.getD n.toNat dB).2.length : Int)) (by omega)
 rw [z1g, if_pos h0, if_pos h1]
 have hg : (m.set n.toNat (endB (m.getD n.toNat dB))).getD n.toNat dB = endB (m.getD n.toNat dB) := by
  rw [z6d _ _ _ _ _ (by omega), if_pos rfl]
 have e1 : ((m.set n.toNat (endB (m.getD n.toNat dB))).getD n.toNat dB).1.1 = (m.getD n.toNat dB).1.1 := by rw [hg]; rfl
 have e2 : ((m.set n.toNat (endB (m.getD n.toNat dB))).getD n.toNat dB).2.length = (m.getD n.toNat dB).2.length := by rw [hg]; rfl
 show (if (((m.set n.toNat (endB (m.getD n.toNat dB))).getD n.toNat dB).1.1 == 0) = true then (L68 ((((m.set n.toNat (endB (m.getD n.toNat dB))).getD n.toNat dB).2.length : Int), ())).bind _ else some (((), ()), ((), u, ()), endM m n, ())) = _
 rw [e1, e2]
 unfold endU
 by_cases hk : (m.getD n.toNat dB).1.1 = 0
 ·rw [if_pos (by rw [beq_iff_eq]; exact hk), if_pos hk, L68_val (by omega) (by omega)]
  simp only [Option.bind_some]
  rw [wi (by omega) (by omega)]
  rfl
 ·rw [if_neg (by rw [beq_iff_eq]; exact hk), if_neg hk]
theorem L107_val {m : List Bp} (hI : Inv m) {u n : Int} (h0 : 0 ≤ n) (h1 : n < m.length) (hu0 : -1000000000 ≤ u) (hu1 : u ≤ 1000000000) :
  L107 (((), n, ()), ((), u, ()), cv m, ()) = some (((), ()), ((), endU m n u, ()), cv (endM m n), ()) := by
 refine (F107_eq L105 n u (cv m)).trans ?_
 have hb := (hI.at n.toNat).1
 have q1 := cn_lo (s := ((m.getD n.toNat dB).2.length : Int)) (by omega)
 have q2 := cn_hi (s := ((m.getD n.toNat dB).2.length : Int)) (by omega)
 have hc := z2y (m := m) (k := n.toNat) (by omega)
 rw [z1g, if_pos h0, z0y, if_pos h1]
 have hg : ((cv m).set n.toNat (cvB (endB (m.getD n.toNat dB)))).getD n.toNat dK = cvB (endB (m.getD n.toNat dB)) := by
  rw [z6d _ _ _ _ _ (by rw [z0y]; omega), if_pos rfl]
 rw [hc]
 have e1 : (((cv m).set n.toNat (cvB (endB (m.getD n.toNat dB)))).getD n.toNat dK).1.1 = (m.getD n.toNat dB).1.1 := by rw [hg]; rfl
 have e2 : (((cv m).set n.toNat (cvB (endB (m.getD n.toNat dB)))).getD n.toNat dK).2.length = (m.getD n.toNat dB).2.length := by rw [hg]; simp [cvB, endB]
 have e3 : cv (endM m n) = (cv m).set n.toNat (cvB (endB (m.getD n.toNat dB))) := cv_set _ _ _
 rw [e3]
 show (if ((((cv m).set n.toNat (cvB (endB (m.getD n.toNat dB)))).getD n.toNat dK).1.1 == 0) = true then (L105 (((((cv m).set n.toNat (cvB (endB (m.getD n.toNat dB)))).getD n.toNat dK).2.length : Int), ())).bind _ else some (((), ()), ((), u, ()), (cv m).set n.toNat (cvB (endB (m.getD n.toNat dB))), ())) = _
 rw [e1, e2]
 unfold endU
 by_cases hk : (m.getD n.toNat dB).1.1 = 0
 ·rw [if_pos (by rw [beq_iff_eq]; exact hk), if_pos hk, L105_val (by omega) (by omega)]
  simp only [Option.bind_some]
  rw [wi (by omega) (by omega)]
  rfl
 ·rw [if_neg (by rw [beq_iff_eq]; exact hk), if_neg hk]
theorem free_ok {m : List Bp} (hI : Inv m) {u : Int} (a : Int × Int) (hu0 : -1000000000 ≤ u) (hu1 : u ≤ 1000000000) :
  ∃ e m' u', L26 (((), a, ()), ((), u, ()), m, ()) = some (((), e, ()), ((), u', ()), m', ()) ∧ L73 (((), a, ()), ((), u, ()), cv m, ()) = some (((), e, ()), ((), u', ()), cv m', ()) ∧ Stp m u False m' u' := by
 obtain ⟨x, y⟩ := a
 have e1 : L26 _ = _ := F26_eq L51 L65 L67 x y u m
 have e2 : L73 _ = _ := F73_eq L106 L107 x y u (cv m)
 rw [z1g] at e1 e2
 have h51 : L51 () = _ := z1M
 have h65 : L65 ((m, u, ()), (x, y), ()) = _ := z5C m u (x, y)
 have h106 : L106 ((cv m, u, ()), (x, y), ()) = _ := z3O m u (x, y)
 rw [h51] at e1
 simp only [Option.bind_some] at e1
 rw [z3d, h65] at e1
 rw [h106] at e2
 simp only [Option.bind_some] at e1 e2
 by_cases hf : fm m.length (x, y) = true
 ·rw [hf, if_neg (by decide)] at e2
  by_cases hn : isN (x, y) = true
  ·rw [if_pos hn] at e1
   have hx : x < 0 := (z6X hf).2 hn
   rw [if_pos (decide_eq_true hx)] at e2
   exact ⟨_, _, _, e1, e2, .same hI⟩
  ·rw [if_neg hn, hf, if_neg (by decide)] at e1
   obtain ⟨p1, p2, _⟩ := z5Q hf (by simpa using hn)
   have p1 : 0 ≤ x := p1
   have p2 : x < (m.length : Int) := p2
   have hc := z2y (m := m) (k := x.toNat) (by omega)
   have k1 : ((cv m).getD x.toNat dK).1.1 = (m.getD x.toNat dB).1.1 := by rw [hc]; rfl
   have k2 : ((cv m).getD x.toNat dK).1.2.2.2 = !(m.getD x.toNat dB).1.2.2.2 := by rw [hc]; rfl
   rw [if_neg (by rw [decide_eq_true_eq]; omega), if_pos p1, z0y, if_pos p2, if_pos p1, if_pos p2, k1, k2, Bool.not_not] at e2
   rw [if_pos p1, if_pos p2, if_pos p1, if_pos p2] at e1
   by_cases h1 : (m.getD x.toNat dB).1.1 = 0
   ·rw [if_neg (by rw [h1]; decide)] at e1 e2
    by_cases h2 : y = 0
    ·rw [if_neg (by rw [h2]; decide)] at e1 e2
     by_cases h3 : (m.getD x.toNat dB).1.2.2.2 = true
     ·rw [if_pos h3] at e1 e2
      exact ⟨_, _, _, e1, e2, .same hI⟩
     ·rw [if_neg h3] at e1 e2
      have g1 : L67 (((), x, ()), ((), u, ()), m, ()) = _ := L67_val hI p1 p2 hu0 hu1
      have g2 : L107 (((), x, ()), ((), u, ()), cv m, ()) = _ := L107_val hI p1 p2 hu0 hu1
      rw [g1] at e1
      rw [g2] at e2
      exact ⟨_, _, _, e1, e2, end_stp hI x⟩
    ·rw [if_pos (by rw [Bool.not_eq_true', beq_eq_false_iff_ne]; exact h2)] at e1 e2
     exact ⟨_, _, _, e1, e2, .same hI⟩
   ·rw [if_pos (by rw [Bool.not_eq_true', beq_eq_false_iff_ne]; exact h1)] at e1 e2
    exact ⟨_, _, _, e1, e2, .same hI⟩
 ·have hf : fm m.length (x, y) = false := by simpa using hf
  rw [hf] at e1 e2
  rw [if_pos (show (!false) = true from rfl)] at e2
  have e1 : L26 (((), (x, y), ()), ((), u, ()), m, ()) = some (((), 18, ()), ((), u, ()), m, ()) := by
   rw [e1]
   split
   ·rfl
   ·exact if_pos rfl
  exact ⟨_, _, _, e1, e2, .same hI⟩
def z5W (m : List Bp) (n : Int) : Int := if n < 0 ∨ (m.length : Int) ≤ n then 8 else if (m.getD n.toNat dB).1.2.2.2 = true then 27 else 0
theorem L84_val (m : List Bp) (u n : Int) : L84 ((m, u, ()), n, ()) = some ((z5W m n, ()), ()) := by
 refine (F84_eq L49 m u n).trans ?_
 unfold z5W
 by_cases h0 : n < 0
 ·rw [if_pos (decide_eq_true h0), if_pos (.inl h0)]
 ·rw [if_neg (by rw [decide_eq_true_eq]; exact h0)]
  by_cases h1 : (m.length : Int) ≤ n
  ·rw [if_pos (decide_eq_true h1), if_pos (.inr h1)]
  ·rw [if_neg (by rw [decide_eq_true_eq]; exact h1), if_neg (show ¬ (n < 0 ∨ (m.length : Int) ≤ n) by omega), if_pos (by omega), if_pos (by omega), z7w]
   rfl
theorem L108_val (m : List Bp) (u n : Int) : L108 ((cv m, u, ()), n, ()) = some ((z5W m n, ()), ()) := by
 refine (F108_eq L101 (cv m) u n).trans ?_
 unfold z5W
 rw [z0y]
 by_cases h0 : n < 0
 ·rw [if_pos (decide_eq_true h0), if_pos (.inl h0)]
 ·rw [if_neg (by rw [decide_eq_true_eq]; exact h0)]
  by_cases h1 : (m.length : Int) ≤ n
  ·rw [if_pos (decide_eq_true h1), if_pos (.inr h1)]
  ·have hc := z2y (m := m) (k := n.toNat) (by omega)
   have k2 : ((cv m).getD n.toNat dK).1.2.2.2 = !(m.getD n.toNat dB).1.2.2.2 := by rw [hc]; rfl
   rw [if_neg (by rw [decide_eq_true_eq]; exact h1), if_neg (show ¬ (n < 0 ∨ (m.length : Int) ≤ n) by omega), if_pos (by omega), if_pos (by omega), k2, Bool.not_not, L101_val]
   rfl
theorem z7d {m : List Bp} {n : Int} (h : z5W m n = 0) : 0 ≤ n ∧ n < m.length := by
 unfold z5W at h
 split at h
 ·cases h
 ·omega
theorem drop_ok {m : List Bp} (hI : Inv m) {u : Int} (n : Int) (hu0 : -1000000000 ≤ u) (hu1 : u ≤ 1000000000) :
  ∃ e m' u', L40 (((), n, ()), ((), u, ()), m, ()) = some (((), e, ()), ((), u', ()), m', ()) ∧ L74 (((), n, ()), ((), u, ()), cv m, ()) = some (((), e, ()), ((), u', ()), cv m', ()) ∧ Stp m u False m' u' := by
 have e1 : L40 _ = _ := F40_eq L67 L84 n u m
 have e2 : L74 _ = _ := F74_eq L107 L108 n u (cv m)
 rw [z1g] at e1 e2
 have h84 : L84 ((m, u, ()), n, ()) = _ := L84_val m u n
 have h108 : L108 ((cv m, u, ()), n, ()) = _ := L108_val m u n
 rw [h84] at e1
 rw [h108] at e2
 simp only [Option.bind_some] at e1 e2
 by_cases h : z5W m n = 0
 ·obtain ⟨p1, p2⟩ := z7d h
  rw [if_neg (by rw [h]; decide)] at e1 e2
  have g1 : L67 (((), n, ()), ((), u, ()), m, ()) = _ := L67_val hI p1 p2 hu0 hu1
  have g2 : L107 (((), n, ()), ((), u, ()), cv m, ()) = _ := L107_val hI p1 p2 hu0 hu1
  rw [g1] at e1
  rw [g2] at e2
  exact ⟨_, _, _, e1, e2, end_stp hI n⟩
 ·rw [if_pos (by rw [Bool.not_eq_true', beq_eq_false_iff_ne]; exact h)] at e1 e2
  exact ⟨_, _, _, e1, e2, .same hI⟩
end Go.Proofs.Rf
namespace Go.Proofs.Rf
open Go Go.RowKit
abbrev Wd := Int × Int × Int × Int
abbrev pS : List UInt8 := [112, 116, 114]
def nb (bits : Int) (k : Nat) : Int := IntKind.u8.wrap (bits.fdiv (2 ^ min (8 * k) 64))
def fit (n : Nat) (s : List UInt8) (b : Nat) (w : Wd) : Bool :=
 if w.1 = 2 then decide (s = pS) && fm n w.2.2 else if w.1 = 1 then decide (bitop .andNot .u64 w.2.1 (mk b) = 0) && (decide (s ≠ pS) || decide (w.2.1 = 0)) else false
def scC (n : Nat) (s : List UInt8) (b : Nat) (w : Wd) (k : Nat) : Cl :=
 if fit n s b w = true then (if w.1 = 2 then (if isN w.2.2 = true then (1, 0, 0, 0) else (2, k, w.2.2.1, w.2.2.2)) else (1, nb w.2.1 k, 0, 0)) else zC
def scL (n : Nat) (s : List UInt8) (b : Nat) (w : Wd) : List Cl := (List.range ((b + 7) / 8)).map (scC n s b w)
theorem z2l (n : Nat) (s : List UInt8) (b : Nat) (w : Wd) : (scL n s b w).length = (b + 7) / 8 := by simp [scL]
theorem z5j : tyb pS = some 64 := by decide
theorem L95_val {s : List UInt8} {b : Nat} (hb : tyb s = some b) (hl : s.length ≤ 1000) (m : List Bp) (u : Int) (w : Wd) : L95 ((m, u, ()), s, w, ()) = some ((fit m.length s b w, ()), ()) := by
 obtain ⟨k, v, x, y⟩ := w
 refine (F95_eq L65 L94 m u s k v x y).trans ?_
 unfold fit
 simp only
 have hb2 : (s == pS) = decide (s = pS) := by rw [Bool.eq_iff_iff, beq_iff_eq, decide_eq_true_eq]
 by_cases h2 : k = 2
 ·rw [if_pos (by rw [beq_iff_eq]; exact h2), if_pos h2]
  by_cases hp : s = pS
  ·rw [if_pos (by rw [beq_iff_eq]; exact hp), decide_eq_true hp, Bool.true_and, z5C m u (x, y)]
   rfl
  ·rw [if_neg (by rw [beq_iff_eq]; exact hp), decide_eq_false hp, Bool.false_and]
 ·rw [if_neg (by rw [beq_iff_eq]; exact h2), if_neg h2]
  by_cases h1 : k = 1
  ·rw [if_pos (by rw [beq_iff_eq]; exact h1), if_pos h1, L94_val hb hl]
   simp only [Option.bind_some]
   by_cases hv : bitop .andNot .u64 v (mk b) = 0
   ·rw [if_pos (by rw [beq_iff_eq]; exact hv), decide_eq_true hv, Bool.true_and]
    by_cases hp : s = pS
    ·rw [if_neg (by rw [Bool.not_eq_true', beq_eq_false_iff_ne]; exact fun q => q hp), decide_eq_false (fun q => q hp), Bool.false_or]
     have e0 : (v == 0) = decide (v = 0) := by rw [Bool.eq_iff_iff, beq_iff_eq, decide_eq_true_eq]
     rw [e0]
    ·rw [if_pos (by rw [Bool.not_eq_true', beq_eq_false_iff_ne]; exact hp), decide_eq_true hp, Bool.true_or]
   ·rw [if_neg (by rw [beq_iff_eq]; exact hv), decide_eq_false hv, Bool.false_and]
  ·rw [if_neg (by rw [beq_iff_eq]; exact h1), if_neg h1]
theorem LD121_val (x y : Int) : LD121 (((), ()), (x, y, ()), ()) = some [(0, 2, 0, x, y), (1, 2, 1, x, y), (2, 2, 2, x, y), (3, 2, 3, x, y), (4, 2, 4, x, y), (5, 2, 5, x, y), (6, 2, 6, x, y), (7, 2, 7, x, y)] := by kernel_rfl
theorem Lg58_10_val (x y : Int) : Lg58_10 [(0, 2, 0, x, y), (1, 2, 1, x, y), (2, 2, 2, x, y), (3, 2, 3, x, y), (4, 2, 4, x, y), (5, 2, 5, x, y), (6, 2, 6, x, y), (7, 2, 7, x, y)] (((), ()), ((), ()), List.replicate 8 zC, ()) =
  some (.inl (((), ()), ((), ()), [(2, 0, x, y), (2, 1, x, y), (2, 2, x, y), (2, 3, x, y), (2, 4, x, y), (2, 5, x, y), (2, 6, x, y), (2, 7, x, y)], ())) := by kernel_rfl
theorem L97_val : L97 ([(1, 0, 0, 0)], 8, ()) = some (((), ()), List.replicate 8 (1, 0, 0, 0), ()) := by
 refine (F97_eq L122 Lg97_8 _ _).trans ?_
 rw [if_neg (by decide), show L122 (IntKind.u64.wrap (([(1, 0, 0, 0)] : List Cl).length : Int), IntKind.u64.wrap 8, ()) = some ((0, 8, ()), ()) by kernel_rfl]
 simp only [Option.bind_some]
 have hg : Lg97_8 (((), 1, ()), (1, 0, 0, 0) :: List.replicate 7 zC, ()) = some (((), ()), List.replicate 8 (1, 0, 0, 0), ()) := z0z 10 (by kernel_rfl)
 rw [if_neg (by decide), if_neg (by decide), if_pos (by decide), if_pos (by decide), if_pos (by decide)]
 have hg' : Lg97_8 (((), ((min ([(1, 0, 0, 0)] : List Cl).length (List.replicate (IntKind.i64.wrap 8).toNat ((0, 0, 0, 0) : Cl)).length : Nat) : Int), ()), (List.take 0 (List.replicate (IntKind.i64.wrap 8).toNat ((0, 0, 0, 0) : Cl)) ++ List.take (List.replicate (IntKind.i64.wrap 8).toNat ((0, 0, 0, 0) : Cl)).length [(1, 0, 0, 0)] ++ List.drop (0 + min ([(1, 0, 0, 0)] : List Cl).length (List.replicate (IntKind.i64.wrap 8).toNat ((0, 0, 0, 0) : Cl)).length) (List.replicate (IntKind.i64.wrap 8).toNat ((0, 0, 0, 0) : Cl))), ()) = some (((), ()), List.replicate 8 (1, 0, 0, 0), ()) := hg
 rw [hg']
 rfl
theorem z4O {A : Type} (f : Nat → A) (z : A) {n k : Nat} (h : k < n) : ((List.range k).map f ++ List.replicate (n - k) z).set k (f k) = (List.range (k + 1)).map f ++ List.replicate (n - (k + 1)) z := by
 rw [List.set_append_right _ _ (by simp), List.length_map, List.length_range, Nat.sub_self, show n - k = (n - (k + 1)) + 1 by omega, List.replicate_succ, List.set_cons_zero, List.range_succ, List.map_append, List.append_assoc]
 rfl
theorem Lg58_3_val (k v x y : Int) {n : Nat} (hn : n ≤ 8) : Lg58_3 (((), (), (n : Int), 0, ()), (k, v, x, y, ()), ((), ()), List.replicate n zC, ()) = some (((), ()), ((), ()), (List.range n).map (fun i => ((1, nb v i, 0, 0) : Cl)), ()) := by
 obtain ⟨z, h1, rfl⟩ := z0P (f := S58_3) (fun s => n - s.1.2.2.2.1.toNat)
  (fun s => ∃ i : Nat, i ≤ n ∧ s = (((), (), (n : Int), (i : Int), ()), (k, v, x, y, ()), ((), ()), (List.range i).map (fun i => ((1, nb v i, 0, 0) : Cl)) ++ List.replicate (n - i) zC, ()))
  (fun z => z = (((), ()), ((), ()), (List.range n).map (fun i => ((1, nb v i, 0, 0) : Cl)), ())) (by
  rintro s ⟨i, hi, rfl⟩
  rw [S58_3_eq]
  by_cases h : i < n
  ·have e8 : IntKind.i64.wrap (8 * (i : Int)) = ((8 * i : Nat) : Int) := by rw [wi (by omega) (by omega)]; omega
   rw [if_pos (decide_eq_true (by omega)), e8, if_neg (by omega), if_pos (by omega), if_pos (by simp; omega), Int.toNat_natCast, Int.toNat_natCast, wi (by omega) (by omega)]
   refine .inl ⟨_, rfl, ⟨i + 1, by omega, ?_⟩, ?_⟩
   ·have := z4O (fun i => ((1, nb v i, 0, 0) : Cl)) zC h
    rw [show ((i : Int) + 1) = ((i + 1 : Nat) : Int) by omega, ← this]
    rfl
   ·show n - ((i : Int) + 1).toNat < n - (i : Int).toNat
    omega
  ·have : i = n := by omega
   subst this
   rw [if_neg (by rw [decide_eq_true_eq]; omega)]
   refine .inr ⟨_, rfl, ?_⟩
   rw [Nat.sub_self, List.replicate_zero, List.append_nil]) (((), (), (n : Int), ((0 : Nat) : Int), ()), (k, v, x, y, ()), ((), ()), List.replicate n zC, ()) ⟨0, by omega, by simp⟩
 exact h1
theorem range8 {A : Type} (f : Nat → A) : (List.range 8).map f = [f 0, f 1, f 2, f 3, f 4, f 5, f 6, f 7] := rfl
theorem map_const {A : Type} (z : A) (n : Nat) : (List.range n).map (fun _ => z) = List.replicate n z := by
 induction n with
 | zero => rfl
 | succ n ih => rw [List.range_succ, List.map_append, ih, List.replicate_succ']; rfl
theorem L58_val {s : List UInt8} {b : Nat} (hb : tyb s = some b) (hl : s.length ≤ 1000) (m : List Bp) (u : Int) (w : Wd) :
  L58 ((m, u, ()), s, (((b + 7) / 8 : Nat) : Int), w, ()) = some (((), ()), scL m.length s b w, ()) := by
 obtain ⟨k, v, x, y⟩ := w
 have h64 := z2q hb
 refine (F58_eq L51 L95 L96 L97 LD121 Lg58_10 Lg58_3 m u s _ k v x y).trans ?_
 rw [if_pos (by omega), if_pos (Int.le_refl _), if_pos (by omega), L95_val hb hl m u (k, v, x, y)]
 simp only [Option.bind_some, Int.toNat_natCast]
 unfold scL
 by_cases hf : fit m.length s b (k, v, x, y) = true
 ·rw [if_neg (by rw [hf]; decide)]
  by_cases h2 : k = 2
  ·have hs : s = pS := by
    unfold fit at hf
    rw [if_pos h2] at hf
    simp only [Bool.and_eq_true, decide_eq_true_eq] at hf
    exact hf.1
   have hb8 : b = 64 := by
    rw [hs, z5j] at hb
    injection hb with hb
    exact hb.symm
   subst hb8
   rw [if_pos (by rw [beq_iff_eq]; exact h2), show L51 () = _ from z1M]
   simp only [Option.bind_some]
   rw [z3d, range8]
   unfold scC
   simp only [if_pos hf, if_pos h2]
   by_cases hn : isN (x, y) = true
   ·rw [if_neg (by rw [hn]; decide), if_pos (by rw [beq_iff_eq]; exact h2)]
    have : L97 ([(1, 0, 0, 0)], (((64 + 7) / 8 : Nat) : Int), ()) = _ := L97_val
    rw [this]
    simp only [if_pos hn]
    rfl
   ·have hn' : isN (x, y) = false := by simpa using hn
    rw [if_pos (by rw [hn']; rfl), show L96 ((x, y), ()) = _ from F96_eq x y]
    simp only [Option.bind_some]
    rw [LD121_val]
    simp only [Option.bind_some]
    have : Lg58_10 [(0, 2, 0, x, y), (1, 2, 1, x, y), (2, 2, 2, x, y), (3, 2, 3, x, y), (4, 2, 4, x, y), (5, 2, 5, x, y), (6, 2, 6, x, y), (7, 2, 7, x, y)] (((), ()), ((), ()), List.replicate ((64 + 7) / 8) ((0, 0, 0, 0) : Cl), ()) = _ := Lg58_10_val x y
    rw [this]
    simp only [if_neg hn]
    rfl
  ·rw [if_neg (by rw [beq_iff_eq]; exact h2), if_neg (by rw [beq_iff_eq]; exact h2)]
   have hg : Lg58_3 (((), (), ((List.replicate ((b + 7) / 8) ((0, 0, 0, 0) : Cl)).length : Int), 0, ()), (k, v, x, y, ()), ((), ()), List.replicate ((b + 7) / 8) ((0, 0, 0, 0) : Cl), ()) = some (((), ()), ((), ()), (List.range ((b + 7) / 8)).map (fun i => ((1, nb v i, 0, 0) : Cl)), ()) := by
    rw [List.length_replicate]
    exact Lg58_3_val k v x y (by omega)
   rw [hg]
   unfold scC
   simp only [if_pos hf, if_neg h2]
   rfl
 ·have hf' : fit m.length s b (k, v, x, y) = false := by simpa using hf
  rw [if_pos (by rw [hf']; rfl)]
  unfold scC
  simp only [if_neg hf]
  rw [map_const]
def scK (s : List UInt8) (b : Nat) (w : Wd) (i : Nat) : Kl :=
 if s = pS then (if w.1 = 2 then (if 0 ≤ w.2.2.1 then (2, 0, w.2.2, i) else (1, 0, (0, 0), 0)) else if w.1 = 1 ∧ w.2.1 = 0 then (1, 0, (0, 0), 0) else zK)
 else if w.1 = 1 ∧ bitop .andNot .u64 w.2.1 (mk b) = 0 then (1, nb w.2.1 i, (0, 0), 0) else zK
theorem set_same {A : Type} (l : List A) (k : Nat) (d : A) (h : k < l.length) : l.set k (l.getD k d) = l := by
 rw [z1s d h]
 exact List.set_getElem_self h
theorem getD_rep {A : Type} (f : Nat → A) (z : A) {n k : Nat} (_h : k < n) : ((List.range k).map f ++ List.replicate (n - k) z).getD k z = z := by
 rw [List.getD_eq_getElem?_getD, List.getElem?_append_right (by simp), List.getElem?_replicate]
 split <;> rfl
theorem S112_4_step {s : List UInt8} {b : Nat} (hb : tyb s = some b) (w : Wd) {n i : Nat} (hn : n ≤ 8) (hi : i < n) (rw1 : List Kl) (hr : rw1.length = n) (hz : rw1.getD i zK = zK) :
  S112_4 L36 L37 ((s, (), (n : Int), (), (i : Int), ()), (w.1, w.2.1, w.2.2.1, w.2.2.2, ()), rw1, ()) = some (.inl ((s, (), (n : Int), (), ((i + 1 : Nat) : Int), ()), (w.1, w.2.1, w.2.2.1, w.2.2.2, ()), rw1.set i (scK s b w i), ())) := by
 obtain ⟨k, v, x, y⟩ := w
 rw [S112_4_eq]
 have q1 : (0 : Int) ≤ (i : Int) := by omega
 have q2 : (i : Int) < (rw1.length : Int) := by omega
 have e8 : IntKind.i64.wrap (8 * (i : Int)) = ((8 * i : Nat) : Int) := by rw [wi (by omega) (by omega)]; omega
 have q8 : ¬ ((8 * i : Nat) : Int) < 0 := by omega
 have e1 : IntKind.i64.wrap ((i : Int) + 1) = ((i + 1 : Nat) : Int) := by rw [wi (by omega) (by omega)]; omega
 have hsame : rw1.set i zK = rw1 := by
  have := set_same rw1 i zK (by omega)
  rwa [hz] at this
 have h37 : L37 (s, ()) = some (((b : Int), ()), ()) := L37_val hb
 have h36 : L36 ((b : Int), ()) = some ((mk b, ()), ()) := L36_val (z2q hb)
 rw [if_pos (decide_eq_true (by omega))]
 simp only [e1, if_pos q1, if_pos q2, Int.toNat_natCast, e8, if_neg q8, h37, Option.bind_some, h36]
 unfold scK
 simp only
 by_cases hp : s = pS
 ·have hp' : (s == [112, 116, 114]) = true := by rw [beq_iff_eq]; exact hp
  simp only [if_pos hp, hp', if_true, Bool.not_true, Bool.false_eq_true, if_false]
  by_cases h2 : k = 2
  ·have h2' : (k == 2) = true := by rw [beq_iff_eq]; exact h2
   simp only [if_pos h2, h2', if_true]
   by_cases hx : 0 ≤ x
   ·rw [if_pos (decide_eq_true hx), if_pos hx]
   ·rw [if_neg (by rw [decide_eq_true_eq]; exact hx), if_neg hx]
  ·have h2' : (k == 2) = false := by rw [beq_eq_false_iff_ne]; exact h2
   simp only [if_neg h2, h2', Bool.false_eq_true, if_false]
   by_cases h1 : k = 1
   ·have h1' : (k == 1) = true := by rw [beq_iff_eq]; exact h1
    simp only [h1', if_true]
    by_cases hv : v = 0
    ·rw [if_pos (by rw [beq_iff_eq]; exact hv), if_pos ⟨h1, hv⟩]
    ·rw [if_neg (by rw [beq_iff_eq]; exact hv), if_neg fun q => hv q.2, hsame]
   ·have h1' : (k == 1) = false := by rw [beq_eq_false_iff_ne]; exact h1
    simp only [h1', Bool.false_eq_true, if_false]
    rw [if_neg fun q => h1 q.1, hsame]
 ·have hp' : (s == [112, 116, 114]) = false := by rw [beq_eq_false_iff_ne]; exact hp
  simp only [if_neg hp, hp', Bool.false_eq_true, if_false, Bool.not_false, if_true]
  by_cases h1 : k = 1
  ·have h1' : (k == 1) = true := by rw [beq_iff_eq]; exact h1
   simp only [h1', if_true]
   by_cases hv : bitop .andNot .u64 v (mk b) = 0
   ·rw [if_pos (by rw [beq_iff_eq]; exact hv), if_pos ⟨h1, hv⟩]
    rfl
   ·rw [if_neg (by rw [beq_iff_eq]; exact hv), if_neg fun q => hv q.2, hsame]
  ·have h1' : (k == 1) = false := by rw [beq_eq_false_iff_ne]; exact h1
   simp only [h1', Bool.false_eq_true, if_false]
   rw [if_neg fun q => h1 q.1, hsame]
theorem L112_val {s : List UInt8} {b : Nat} (hb : tyb s = some b) (w : Wd) : L112 (s, w, ()) = some (((), ()), (List.range ((b + 7) / 8)).map (scK s b w), ()) := by
 have h64 := z2q hb
 refine (F112_eq L15 Lg112_4 s w.1 w.2.1 w.2.2.1 w.2.2.2).trans ?_
 rw [z5F, hb]
 generalize hn : (b + 7) / 8 = n
 have hn8 : n ≤ 8 := by omega
 have e15 : szA (some b) = ((n : Int), 0, ()) := by
  show ((((b + 7) / 8 : Nat) : Int), 0, ()) = _
  rw [hn]
 rw [e15]
 simp only [Option.bind_some, Int.toNat_natCast]
 have g0 : (0 : Int) ≤ (n : Int) := by omega
 have g1 : (n : Int) ≤ ((4294967296 : Nat) : Int) := by omega
 refine (if_pos g0).trans ((if_pos (Int.le_refl _)).trans ((if_pos g1).trans ?_))
 obtain ⟨z, h1, rfl⟩ := z0P (f := S112_4 L36 L37) (fun s => n - s.1.2.2.2.2.1.toNat)
  (fun t => ∃ i : Nat, i ≤ n ∧ t = ((s, (), (n : Int), (), (i : Int), ()), (w.1, w.2.1, w.2.2.1, w.2.2.2, ()), (List.range i).map (scK s b w) ++ List.replicate (n - i) zK, ()))
  (fun z => z = (((), ()), (List.range n).map (scK s b w), ())) (by
  rintro t ⟨i, hi, rfl⟩
  by_cases h : i < n
  ·refine .inl ⟨_, S112_4_step hb w hn8 h _ (by simp; omega) (getD_rep _ _ h), ⟨i + 1, by omega, ?_⟩, ?_⟩
   ·rw [z4O _ _ h]
   ·show n - ((i + 1 : Nat) : Int).toNat < n - (i : Int).toNat
    omega
  ·have : i = n := by omega
   subst this
   rw [S112_4_eq, if_neg (by rw [decide_eq_true_eq]; omega)]
   refine .inr ⟨_, rfl, ?_⟩
   rw [Nat.sub_self, List.replicate_zero, List.append_nil]) ((s, (), (n : Int), (), ((0 : Nat) : Int), ()), (w.1, w.2.1, w.2.2.1, w.2.2.2, ()), List.replicate n zK, ()) ⟨0, by omega, by simp⟩
 have h1 : Lg112_4 ((s, (), (n : Int), (), 0, ()), (w.1, w.2.1, w.2.2.1, w.2.2.2, ()), List.replicate n (0, 0, (0, 0), 0), ()) = _ := h1
 rw [h1]
 rfl
def refW (n : Nat) (w : Wd) : Wd := if w.1 = 2 ∧ fm n w.2.2 = false then (0, 0, 0, 0) else w
theorem bit_zero (x : Int) : bitop .andNot .u64 0 x = 0 := by
 simp [bitop]
 decide
theorem nb_zero (k : Nat) : nb 0 k = 0 := by
 unfold nb
 rw [Int.zero_fdiv]
 decide
theorem sc_cv {s : List UInt8} {b n : Nat} (w : Wd) (k : Nat) : cvC (scC n s b w k) = scK s b (refW n w) k := by
 obtain ⟨kd, v, x, y⟩ := w
 unfold scC scK fit refW
 by_cases h2 : kd = 2
 ·subst h2
  by_cases hp : s = pS
  ·cases hf : fm n (x, y) with
   | true =>
    by_cases hn : isN (x, y) = true
    ·have := (z6X hf).2 hn
     have hx : ¬ 0 ≤ x := by show ¬ 0 ≤ x; have : x < 0 := this; omega
     simp [hp, hn, hx, cvC]
    ·have := (z5Q hf (by simpa using hn)).1
     have hx : 0 ≤ x := this
     simp [hp, hn, hx, cvC]
   | false => simp [hp, cvC, zC]
  ·cases fm n (x, y) <;> simp [hp, cvC, zC]
 ·by_cases h1 : kd = 1
  ·subst h1
   by_cases hp : s = pS
   ·by_cases hv : v = 0
    ·subst hv
     simp [hp, bit_zero, nb_zero, cvC]
    ·simp [hp, hv, cvC, zC]
   ·by_cases hv : bitop .andNot .u64 v (mk b) = 0 <;> simp [hp, hv, cvC, zC]
  ·simp [h2, h1, cvC, zC]
theorem sc_wf (n : Nat) (s : List UInt8) (b : Nat) (w : Wd) : ∀ c ∈ scL n s b w, wfC c := by
 intro c hc
 unfold scL at hc
 obtain ⟨k, _, rfl⟩ := List.mem_map.1 hc
 unfold scC
 split
 ·rename_i hf
  split
  ·rename_i h2
   split
   ·exact .inr (.inl ⟨rfl, rfl⟩)
   ·rename_i hn
    unfold fit at hf
    rw [if_pos h2, Bool.and_eq_true] at hf
    exact .inr (.inr ⟨rfl, (z5Q hf.2 (by simpa using hn)).1⟩)
  ·exact .inr (.inl ⟨rfl, rfl⟩)
 ·exact .inl rfl
theorem scL_cv {s : List UInt8} {b n : Nat} (w : Wd) : (scL n s b w).map cvC = (List.range ((b + 7) / 8)).map (scK s b (refW n w)) := by
 unfold scL
 rw [List.map_map]
 refine List.map_congr_left fun k _ => sc_cv w k
end Go.Proofs.Rf
namespace Go.Proofs.Rf
open Go Go.RowKit
theorem z2F (c : Cl) : (cvC c).1 = c.1 := by
 unfold cvC
 split
 ·rename_i h; exact h.symm
 ·rfl
theorem cvC_num {c : Cl} (h : c.1 = 1) : cvC c = (1, c.2.1, c.2.2, 0) := by
 unfold cvC
 rw [if_neg (by omega), h]
theorem cvC_ptr {c : Cl} (h : c.1 = 2) : cvC c = (2, 0, c.2.2, c.2.1) := by
 unfold cvC
 rw [if_pos h]
theorem cv_get {l : List Cl} {k : Nat} (h : k < l.length) : (l.map cvC).getD k zK = cvC (l.getD k zC) := by
 rw [z1s zK (by simpa using h), z1s zC h]
 simp
def gF : List Cl → Nat → Int → Int
 | [], _, acc => acc
 | c :: r, i, acc => gF r (i + 1) (bitop .or .u64 acc (IntKind.u64.wrap (IntKind.u64.wrap c.2.1 * 2 ^ min (8 * i) 64)))
def all1 (l : List Cl) : Bool := l.all fun c => c.1 == 1
theorem drop_cons {l : List Cl} {i : Nat} (h : i < l.length) : l.drop i = l.getD i zC :: l.drop (i + 1) := by
 rw [List.drop_eq_getElem_cons h, z1s zC h]
def numW (b : Nat) (l : List Cl) : Wd := if all1 l = true then (1, bitop .and .u64 (gF l 0 0) (mk b), -1, 0) else (0, 0, -1, 0)
theorem L56_num {s : List UInt8} {b : Nat} (hb : tyb s = some b) (hs : s.length ≤ 1000) (hp : s ≠ pS) {l : List Cl} (hl : l.length ≤ 8) : L56 (s, l, ()) = some ((numW b l, ()), ()) := by
 refine (F56_eq L51 L93 L94 Lg56_9 s l).trans ?_
 rw [show L51 () = _ from z1M]
 simp only [Option.bind_some]
 rw [if_neg (by rw [beq_iff_eq]; exact hp)]
 unfold numW
 obtain ⟨z, h1, rfl⟩ := z0P (f := S56_9) (fun t => l.length - t.1.2.2.2.2.2.2.1.toNat)
  (fun t => ∃ (i : Nat) (acc : Int), i ≤ l.length ∧ t = ((s, (), (), acc, l, (l.length : Int), (i : Int), ()), (0, 0, 0, 0, ()), (0, 0, -1, 0, ()), ()) ∧ all1 l = all1 (l.drop i) ∧ gF l 0 0 = gF (l.drop i) i acc)
  (fun z => z = (if all1 l = true then .inr ((s, (), gF l 0 0, ()), (0, 0, 0, 0, ()), ()) else .inl (((), ()), (0, 0, -1, 0, ()), ()))) (by
  rintro t ⟨i, acc, hi, rfl, ha, hg⟩
  rw [S56_9_eq]
  by_cases h : i < l.length
  ·rw [drop_cons h] at ha hg
   rw [if_pos (decide_eq_true (by omega)), if_pos (by omega), if_pos (by omega), Int.toNat_natCast]
   unfold all1 at ha
   rw [List.all_cons] at ha
   by_cases hc : (l.getD i zC).1 = 1
   ·have hc' : ((l.getD i zC).1 == 1) = true := by rw [beq_iff_eq]; exact hc
    rw [hc', Bool.true_and] at ha
    have e8 : IntKind.i64.wrap (8 * (i : Int)) = ((8 * i : Nat) : Int) := by rw [wi (by omega) (by omega)]; omega
    rw [if_neg (by rw [hc']; decide), e8, if_neg (by omega), wi (by omega) (by omega), Int.toNat_natCast]
    refine .inl ⟨_, rfl, ⟨i + 1, _, by omega, rfl, ha, hg⟩, ?_⟩
    show l.length - ((i : Int) + 1).toNat < l.length - (i : Int).toNat
    omega
   ·have hc' : ((l.getD i zC).1 == 1) = false := by rw [beq_eq_false_iff_ne]; exact hc
    rw [hc', Bool.false_and] at ha
    have ha : all1 l = false := ha
    rw [if_pos (by rw [hc']; rfl), ha]
    exact .inr ⟨_, rfl, rfl⟩
  ·rw [if_neg (by rw [decide_eq_true_eq]; omega)]
   rw [List.drop_of_length_le (by omega)] at ha hg
   have ha : all1 l = true := ha
   have hg : gF l 0 0 = acc := hg
   rw [if_pos ha, hg]
   exact .inr ⟨_, rfl, rfl⟩) ((s, (), (), 0, l, (l.length : Int), ((0 : Nat) : Int), ()), (0, 0, 0, 0, ()), (0, 0, -1, 0, ()), ()) ⟨0, 0, by omega, rfl, by rw [List.drop_zero], by rw [List.drop_zero]⟩
 have h1 : Lg56_9 ((s, (), (), 0, l, (l.length : Int), 0, ()), (0, 0, 0, 0, ()), (0, 0, -1, 0, ()), ()) = _ := h1
 rw [h1]
 simp only [Option.bind_some]
 by_cases ha : all1 l = true
 ·simp only [if_pos ha, Sum.elim_inr]
  rw [L94_val hb hs]
  rfl
 ·simp only [if_neg ha, Sum.elim_inl]
theorem L111_num {s : List UInt8} {b : Nat} (hb : tyb s = some b) (hp : s ≠ pS) {l : List Cl} (hl : l.length ≤ 8) : L111 (s, l.map cvC, ()) = some ((numW b l, ()), ()) := by
 refine (F111_eq L36 L37 L103 Lg111_4 z6i s _).trans ?_
 rw [if_neg (by rw [beq_iff_eq]; exact hp)]
 unfold numW
 obtain ⟨z, h1, rfl⟩ := z0P (f := S111_15 L103) (fun t => l.length - t.1.2.2.2.2.1.toNat)
  (fun t => ∃ (i : Nat) (acc : Int), i ≤ l.length ∧ t = ((s, l.map cvC, (), acc, (i : Int), ()), (0, 0, 0, 0, ()), ()) ∧ all1 l = all1 (l.drop i) ∧ gF l 0 0 = gF (l.drop i) i acc)
  (fun z => z = (if all1 l = true then .inr ((s, (), gF l 0 0, ()), (0, 0, 0, 0, ()), ()) else .inl (((), ()), (0, 0, -1, 0, ()), ()))) (by
  rintro t ⟨i, acc, hi, rfl, ha, hg⟩
  rw [S111_15_eq]
  have hln : (l.map cvC).length = l.length := by simp
  by_cases h : i < l.length
  ·rw [drop_cons h] at ha hg
   have q1 : (0 : Int) ≤ (i : Int) := by omega
   have q2 : (i : Int) < ((l.map cvC).length : Int) := by omega
   rw [if_pos (decide_eq_true q2)]
   simp only [if_pos q1, if_pos q2, Int.toNat_natCast]
   rw [cv_get h, z2F]
   unfold all1 at ha
   rw [List.all_cons] at ha
   by_cases hc : (l.getD i zC).1 = 1
   ·have hc' : ((l.getD i zC).1 == 1) = true := by rw [beq_iff_eq]; exact hc
    rw [hc', Bool.true_and] at ha
    have e8 : IntKind.i64.wrap (8 * (i : Int)) = ((8 * i : Nat) : Int) := by rw [wi (by omega) (by omega)]; omega
    rw [if_neg (by rw [hc']; decide), e8, if_neg (by omega), wi (by omega) (by omega), Int.toNat_natCast, cvC_num hc]
    refine .inl ⟨_, rfl, ⟨i + 1, _, by omega, rfl, ha, hg⟩, ?_⟩
    show l.length - ((i : Int) + 1).toNat < l.length - (i : Int).toNat
    omega
   ·have hc' : ((l.getD i zC).1 == 1) = false := by rw [beq_eq_false_iff_ne]; exact hc
    rw [hc', Bool.false_and] at ha
    have ha : all1 l = false := ha
    rw [if_pos (by rw [hc']; rfl), ha, show L103 () = _ from z3P]
    exact .inr ⟨_, rfl, rfl⟩
  ·rw [if_neg (by rw [decide_eq_true_eq]; omega)]
   rw [List.drop_of_length_le (by omega)] at ha hg
   have ha : all1 l = true := ha
   have hg : gF l 0 0 = acc := hg
   rw [if_pos ha, hg]
   exact .inr ⟨_, rfl, rfl⟩) ((s, l.map cvC, (), 0, ((0 : Nat) : Int), ()), (0, 0, 0, 0, ()), ()) ⟨0, 0, by omega, rfl, by rw [List.drop_zero], by rw [List.drop_zero]⟩
 have h1 : z6i ((s, l.map cvC, (), 0, 0, ()), (0, 0, 0, 0, ()), ()) = _ := h1
 rw [h1]
 simp only [Option.bind_some]
 by_cases ha : all1 l = true
 ·simp only [if_pos ha, Sum.elim_inr]
  rw [L37_val hb]
  simp only [Option.bind_some]
  rw [L36_val (z2q hb)]
  rfl
 ·simp only [if_neg ha, Sum.elim_inl]
theorem foldR_all {El A B : Type} {f : El → A → Option (A ⊕ B)} {st : A} {z : B} {p : El → Bool} : ∀ {es : List El}, (∀ e ∈ es, f e st = if p e = true then some (.inl st) else some (.inr z)) → foldR f es st = if es.all p = true then some (.inl st) else some (.inr z)
 | [], _ => rfl
 | e :: r, h => by
  have h0 := h e (List.mem_cons_self ..)
  rw [List.all_cons]
  cases hp : p e with
  | true =>
   rw [hp, if_pos rfl] at h0
   simp only [foldR, h0, Bool.true_and]
   exact foldR_all fun e he => h e (List.mem_cons_of_mem _ he)
  | false =>
   rw [hp, if_neg (by decide)] at h0
   simp only [foldR, h0, Bool.false_and]
   rfl
def ptC (a : Int × Int) (k : Nat) : Cl := if isN a = true then (1, 0, 0, 0) else (2, k, a.1, a.2)
theorem cl_beq (c d : Cl) : (c.1 == d.1 && (c.2.1 == d.2.1 && (c.2.2.1 == d.2.2.1 && (c.2.2.2 == d.2.2.2 && true) && true))) = decide (c = d) := by
 obtain ⟨a, b, x, y⟩ := c
 obtain ⟨a', b', x', y'⟩ := d
 rw [Bool.eq_iff_iff, decide_eq_true_eq]
 simp [Prod.mk.injEq]
def ptP (l : List Cl) (a : Int × Int) : Prop := ∀ k, k < 8 → l.getD k zC = ptC a k
instance (l : List Cl) (a : Int × Int) : Decidable (ptP l a) := by unfold ptP; infer_instance
def adr0 (l : List Cl) : Int × Int := if (l.getD 0 zC).1 = 1 then (-1, 0) else (l.getD 0 zC).2.2
theorem z7X {l : List Cl} (hl : l.length = 8) (a : Int × Int) :
  ((LD121 (((), ()), (a.1, a.2, ()), ())).bind fun xs => (Lg93_5 xs (((), (), (), (), ()), (l, ()), (0, 0, ()), (false, ()), (a.1, a.2, ()), ())).bind fun y =>
   Sum.elim (fun x' => some (((x'.2.2.2.2.1.1, x'.2.2.2.2.1.2.1), true, ()), ())) (fun z => some (((z.2.1.1, z.2.1.2.1), z.2.2.1.1, ()), ())) y : Option rs93.den) = some ((if ptP l a then (a, true, ()) else ((-1, 0), false, ())), ()) := by
 obtain ⟨x, y⟩ := a
 rw [LD121_val]
 simp only [Option.bind_some]
 have hstep : ∀ k : Nat, k < 8 → S93_5 L51 ((k : Int), 2, (k : Int), x, y) (((), (), (), (), ()), (l, ()), (0, 0, ()), (false, ()), (x, y, ()), ()) = if decide (l.getD k zC = ptC (x, y) k) = true then some (.inl (((), (), (), (), ()), (l, ()), (0, 0, ()), (false, ()), (x, y, ()), ())) else some (.inr (((), (), ()), (-1, 0, ()), (false, ()), ())) := by
  intro k hk
  refine (S93_5_eq L51 k 2 k x y l 0 0 false x y).trans ?_
  rw [show L51 () = _ from z1M]
  simp only [Option.bind_some]
  have q1 : (0 : Int) ≤ (k : Int) := by omega
  have q2 : (k : Int) < (l.length : Int) := by omega
  rw [z3d]
  simp only [if_pos q1, if_pos q2, Int.toNat_natCast]
  unfold ptC
  by_cases hn : isN (x, y) = true
  ·rw [if_pos hn, if_pos hn]
   have := cl_beq (l.getD k zC) (1, 0, 0, 0)
   rw [← this]
  ·rw [if_neg hn, if_neg hn]
   have := cl_beq (l.getD k zC) (2, (k : Int), x, y)
   rw [← this]
 have hall : Lg93_5 [(0, 2, 0, x, y), (1, 2, 1, x, y), (2, 2, 2, x, y), (3, 2, 3, x, y), (4, 2, 4, x, y), (5, 2, 5, x, y), (6, 2, 6, x, y), (7, 2, 7, x, y)] (((), (), (), (), ()), (l, ()), (0, 0, ()), (false, ()), (x, y, ()), ()) = if ptP l (x, y) then some (.inl (((), (), (), (), ()), (l, ()), (0, 0, ()), (false, ()), (x, y, ()), ())) else some (.inr (((), (), ()), (-1, 0, ()), (false, ()), ())) := by
  refine (foldR_all (p := fun e => decide (l.getD e.1.toNat zC = ptC (x, y) e.1.toNat)) (z := (((), (), ()), (-1, 0, ()), (false, ()), ())) fun e he => ?_).trans ?_
  ·simp only [List.mem_cons, List.not_mem_nil, or_false] at he
   rcases he with rfl | rfl | rfl | rfl | rfl | rfl | rfl | rfl
   ·exact hstep 0 (by omega)
   ·exact hstep 1 (by omega)
   ·exact hstep 2 (by omega)
   ·exact hstep 3 (by omega)
   ·exact hstep 4 (by omega)
   ·exact hstep 5 (by omega)
   ·exact hstep 6 (by omega)
   ·exact hstep 7 (by omega)
  ·have hiff : (List.all [((0 : Int), (2 : Int), (0 : Int), x, y), (1, 2, 1, x, y), (2, 2, 2, x, y), (3, 2, 3, x, y), (4, 2, 4, x, y), (5, 2, 5, x, y), (6, 2, 6, x, y), (7, 2, 7, x, y)] fun e => decide (l.getD e.1.toNat zC = ptC (x, y) e.1.toNat)) = true ↔ ptP l (x, y) := by
    simp only [List.all_cons, List.all_nil, Bool.and_eq_true, decide_eq_true_eq, Bool.and_true]
    constructor
    ·rintro ⟨h0, h1, h2, h3, h4, h5, h6, h7⟩ k hk
     match k, hk with
     | 0, _ => exact h0
     | 1, _ => exact h1
     | 2, _ => exact h2
     | 3, _ => exact h3
     | 4, _ => exact h4
     | 5, _ => exact h5
     | 6, _ => exact h6
     | 7, _ => exact h7
    ·intro h
     exact ⟨h 0 (by omega), h 1 (by omega), h 2 (by omega), h 3 (by omega), h 4 (by omega), h 5 (by omega), h 6 (by omega), h 7 (by omega)⟩
   by_cases hp : ptP l (x, y)
   ·rw [if_pos (hiff.2 hp), if_pos hp]
   ·rw [if_neg fun q => hp (hiff.1 q), if_neg hp]
 rw [hall]
 by_cases hp : ptP l (x, y)
 ·rw [if_pos hp, if_pos hp]
  rfl
 ·rw [if_neg hp, if_neg hp]
  rfl
theorem L93_val {l : List Cl} (hl : l.length = 8) : L93 (l, ()) = some ((if ptP l (adr0 l) then (adr0 l, true, ()) else ((-1, 0), false, ())), ()) := by
 refine (F93_eq L51 L96 LD121 Lg93_5 l).trans ?_
 have q : (0 : Int) < (l.length : Int) := by omega
 rw [if_pos q, if_pos q]
 unfold adr0
 by_cases h1 : (l.getD 0 zC).1 = 1
 ·rw [if_pos (by rw [beq_iff_eq]; exact h1), if_pos h1, show L51 () = _ from z1M]
  simp only [Option.bind_some]
  rw [show L96 ((-1, 0), ()) = _ from F96_eq (-1) 0]
  simp only [Option.bind_some]
  exact z7X hl (-1, 0)
 ·rw [if_neg (by rw [beq_iff_eq]; exact h1), if_neg h1]
  have := F96_eq (l.getD 0 zC).2.2.1 (l.getD 0 zC).2.2.2
  rw [show L96 (((l.getD 0 (0, 0, 0, 0)).2.2.1, (l.getD 0 (0, 0, 0, 0)).2.2.2), ()) = _ from this]
  simp only [Option.bind_some]
  exact z7X hl (l.getD 0 zC).2.2
def ptrW (l : List Cl) : Wd := if ptP l (adr0 l) then (2, 0, adr0 l) else (0, 0, -1, 0)
theorem L56_ptr {l : List Cl} (hl : l.length = 8) : L56 (pS, l, ()) = some ((ptrW l, ()), ()) := by
 refine (F56_eq L51 L93 L94 Lg56_9 pS l).trans ?_
 rw [show L51 () = _ from z1M]
 simp only [Option.bind_some]
 rw [if_pos (by decide), L93_val hl]
 simp only [Option.bind_some]
 unfold ptrW
 by_cases h : ptP l (adr0 l)
 ·simp only [if_pos h]
  rfl
 ·simp only [if_neg h]
  rfl
def zeB (l : List Kl) (i : Nat) : Bool := (List.range i).all fun j => (l.getD j zK).1 == 1 && (l.getD j zK).2.1 == 0
def whB (l : List Kl) (i : Nat) : Bool := (List.range i).all fun j => (l.getD j zK).1 == 2 && ((l.getD j zK).2.2.2 == (j : Int) && ((l.getD j zK).2.2.1.1 == (l.getD 0 zK).2.2.1.1 && ((l.getD j zK).2.2.1.2 == (l.getD 0 zK).2.2.1.2 && true)))
theorem zeB_succ (l : List Kl) (i : Nat) : zeB l (i + 1) = (zeB l i && ((l.getD i zK).1 == 1 && (l.getD i zK).2.1 == 0)) := by
 unfold zeB
 rw [List.range_succ, List.all_append, List.all_cons, List.all_nil, Bool.and_true]
theorem whB_succ (l : List Kl) (i : Nat) : whB l (i + 1) = (whB l i && ((l.getD i zK).1 == 2 && ((l.getD i zK).2.2.2 == (i : Int) && ((l.getD i zK).2.2.1.1 == (l.getD 0 zK).2.2.1.1 && ((l.getD i zK).2.2.1.2 == (l.getD 0 zK).2.2.1.2 && true))))) := by
 unfold whB
 rw [List.range_succ, List.all_append, List.all_cons, List.all_nil, Bool.and_true]
theorem S111_4_step {l : List Kl} {i : Nat} (hi : i < l.length) (hl : l.length ≤ 100) (z w : Bool) (b0 b1 b2 b3 : Int) :
  S111_4 ((l, (), z, w, (i : Int), ()), (b0, b1, b2, b3, ()), ()) = some (.inl ((l, (), (z && ((l.getD i zK).1 == 1 && (l.getD i zK).2.1 == 0)), (w && ((l.getD i zK).1 == 2 && ((l.getD i zK).2.2.2 == (i : Int) && ((l.getD i zK).2.2.1.1 == (l.getD 0 zK).2.2.1.1 && ((l.getD i zK).2.2.1.2 == (l.getD 0 zK).2.2.1.2 && true))))), ((i + 1 : Nat) : Int), ()), (b0, b1, b2, b3, ()), ())) := by
 have q1 : (0 : Int) ≤ (i : Int) := by omega
 have q2 : (i : Int) < (l.length : Int) := by omega
 have q3 : (0 : Int) < (l.length : Int) := by omega
 have e1 : IntKind.i64.wrap ((i : Int) + 1) = ((i + 1 : Nat) : Int) := by rw [wi (by omega) (by omega)]; omega
 rw [S111_4_eq, if_pos (decide_eq_true q2)]
 simp only [if_pos q1, if_pos q2, if_pos q3, Int.toNat_natCast, e1]
 cases z <;> cases w <;> cases h1 : ((l.getD i zK).1 == 1) <;> cases h2 : ((l.getD i zK).1 == 2) <;> cases h3 : ((l.getD i zK).2.2.2 == (i : Int)) <;> rfl
theorem Lg111_4_val {l : List Kl} (hl : l.length ≤ 100) : Lg111_4 ((l, (), true, true, 0, ()), (0, 0, 0, 0, ()), ()) = some ((l, (), zeB l l.length, whB l l.length, ()), (0, 0, 0, 0, ()), ()) := by
 obtain ⟨z, h1, rfl⟩ := z0P (f := S111_4) (fun t => l.length - t.1.2.2.2.2.1.toNat)
  (fun t => ∃ i : Nat, i ≤ l.length ∧ t = ((l, (), zeB l i, whB l i, (i : Int), ()), (0, 0, 0, 0, ()), ()))
  (fun z => z = ((l, (), zeB l l.length, whB l l.length, ()), (0, 0, 0, 0, ()), ())) (by
  rintro t ⟨i, hi, rfl⟩
  by_cases h : i < l.length
  ·refine .inl ⟨_, S111_4_step h hl _ _ 0 0 0 0, ⟨i + 1, by omega, ?_⟩, ?_⟩
   ·rw [zeB_succ, whB_succ]
   ·show l.length - ((i + 1 : Nat) : Int).toNat < l.length - (i : Int).toNat
    omega
  ·have : i = l.length := by omega
   subst this
   rw [S111_4_eq, if_neg (by rw [decide_eq_true_eq]; omega)]
   exact .inr ⟨_, rfl, rfl⟩) ((l, (), zeB l 0, whB l 0, ((0 : Nat) : Int), ()), (0, 0, 0, 0, ()), ()) ⟨0, by omega, rfl⟩
 exact h1
theorem zeB_iff {l : List Kl} {n : Nat} : zeB l n = true ↔ ∀ j, j < n → (l.getD j zK).1 = 1 ∧ (l.getD j zK).2.1 = 0 := by
 unfold zeB
 rw [List.all_eq_true]
 constructor
 ·intro h j hj
  have := h j (List.mem_range.2 hj)
  rwa [Bool.and_eq_true, beq_iff_eq, beq_iff_eq] at this
 ·intro h j hj
  rw [Bool.and_eq_true, beq_iff_eq, beq_iff_eq]
  exact h j (List.mem_range.1 hj)
theorem whB_iff {l : List Kl} {n : Nat} : whB l n = true ↔ ∀ j, j < n → (l.getD j zK).1 = 2 ∧ (l.getD j zK).2.2.2 = (j : Int) ∧ (l.getD j zK).2.2.1 = (l.getD 0 zK).2.2.1 := by
 unfold whB
 rw [List.all_eq_true]
 constructor
 ·intro h j hj
  have := h j (List.mem_range.2 hj)
  simp only [Bool.and_eq_true, beq_iff_eq, Bool.and_true] at this
  exact ⟨this.1, this.2.1, Prod.ext this.2.2.1 this.2.2.2⟩
 ·intro h j hj
  obtain ⟨h1, h2, h3⟩ := h j (List.mem_range.1 hj)
  simp only [Bool.and_eq_true, beq_iff_eq, Bool.and_true]
  exact ⟨h1, h2, by rw [h3], by rw [h3]⟩
theorem L111_ptr {l : List Cl} (hl : l.length = 8) (hw : ∀ c ∈ l, wfC c) : L111 (pS, l.map cvC, ()) = some ((ptrW l, ()), ()) := by
 have hln : (l.map cvC).length = 8 := by simpa using hl
 refine (F111_eq L36 L37 L103 Lg111_4 z6i pS _).trans ?_
 rw [if_pos (by decide), Lg111_4_val (by omega), hln]
 simp only [Option.bind_some]
 have hg : ∀ j, j < 8 → (l.map cvC).getD j zK = cvC (l.getD j zC) := fun j hj => cv_get (by omega)
 have hwf : ∀ j, j < 8 → wfC (l.getD j zC) := fun j hj => by
  rw [z1s zC (by omega)]
  exact hw _ (List.getElem_mem _)
 have hlen : (0 : Int) < ((l.map cvC).length : Int) := by omega
 unfold ptrW
 have h103 : L103 () = _ := z3P
 rw [h103]
 simp only [Option.bind_some]
 rcases hwf 0 (by omega) with h0 | ⟨h0, h0'⟩ | ⟨h0, h0'⟩
 ·
  have hk : (l.getD 0 zC).1 = 0 := by rw [h0]
  have n1 : ¬ zeB (l.map cvC) 8 = true := fun q => by
   have := (zeB_iff.1 q 0 (by omega)).1
   rw [hg 0 (by omega), z2F, hk] at this
   cases this
  have n2 : ¬ whB (l.map cvC) 8 = true := fun q => by
   have := (whB_iff.1 q 0 (by omega)).1
   rw [hg 0 (by omega), z2F, hk] at this
   cases this
  have n3 : ¬ ptP l (adr0 l) := fun q => by
   have := q 0 (by omega)
   rw [h0] at this
   have h2 := congrArg Prod.fst this
   unfold ptC at h2
   split at h2 <;> cases h2
  rw [if_neg n2, if_neg n1, if_neg n3]
 ·
  have ea : adr0 l = (-1, 0) := by unfold adr0; rw [if_pos h0]
  have n2 : ¬ whB (l.map cvC) 8 = true := fun q => by
   have := (whB_iff.1 q 0 (by omega)).1
   rw [hg 0 (by omega), z2F, h0] at this
   cases this
  rw [if_neg n2, ea]
  have hiff : zeB (l.map cvC) 8 = true ↔ ptP l (-1, 0) := by
   rw [zeB_iff]
   constructor
   ·intro h j hj
    obtain ⟨k1, k2⟩ := h j hj
    rw [hg j hj, z2F] at k1
    rw [hg j hj, cvC_num k1] at k2
    have k2 : (l.getD j zC).2.1 = 0 := k2
    rcases hwf j hj with q | ⟨_, q⟩ | ⟨q, _⟩
    ·rw [q] at k1; cases k1
    ·show l.getD j zC = (1, 0, 0, 0)
     exact Prod.ext k1 (Prod.ext k2 q)
    ·rw [q] at k1; cases k1
   ·intro h j hj
    have := h j hj
    have e : l.getD j zC = (1, 0, 0, 0) := this
    rw [hg j hj, e]
    exact ⟨rfl, rfl⟩
  by_cases hp : ptP l (-1, 0)
  ·rw [if_pos (hiff.2 hp), if_pos hp]
  ·rw [if_neg fun q => hp (hiff.1 q), if_neg hp]
 ·
  have ea : adr0 l = (l.getD 0 zC).2.2 := by unfold adr0; rw [if_neg (by omega)]
  have en : isN (l.getD 0 zC).2.2 = false := by
   unfold isN
   rw [decide_eq_false_iff_not]
   omega
  have e0 : ((l.map cvC).getD 0 zK).2.2.1 = (l.getD 0 zC).2.2 := by rw [hg 0 (by omega), cvC_ptr h0]
  rw [ea]
  have n1 : ¬ zeB (l.map cvC) 8 = true := fun q => by
   have := (zeB_iff.1 q 0 (by omega)).1
   rw [hg 0 (by omega), z2F, h0] at this
   cases this
  have hiff : whB (l.map cvC) 8 = true ↔ ptP l (l.getD 0 zC).2.2 := by
   rw [whB_iff]
   constructor
   ·intro h j hj
    obtain ⟨k1, k2, k3⟩ := h j hj
    rw [hg j hj, z2F] at k1
    rw [hg j hj, cvC_ptr k1] at k2
    rw [e0, hg j hj, cvC_ptr k1] at k3
    unfold ptC
    rw [if_neg (by rw [en]; decide)]
    exact Prod.ext k1 (Prod.ext k2 k3)
   ·intro h j hj
    have := h j hj
    unfold ptC at this
    rw [if_neg (by rw [en]; decide)] at this
    have k1 : (l.getD j zC).1 = 2 := by rw [this]
    rw [e0, hg j hj, cvC_ptr k1, this]
    exact ⟨rfl, rfl, rfl⟩
  by_cases hp : ptP l (l.getD 0 zC).2.2
  ·rw [if_pos (hiff.2 hp), if_pos hp]
   have q : (0 : Int) < ((l.map cvC).length : Int) := by omega
   refine (if_pos q).trans ?_
   show some (((2, 0, ((l.map cvC).getD 0 zK).2.2.1.1, ((l.map cvC).getD 0 zK).2.2.1.2), ()), ()) = _
   rw [e0]
  ·rw [if_neg fun q => hp (hiff.1 q), if_neg n1, if_neg hp]
def gaW (s : List UInt8) (b : Nat) (l : List Cl) : Wd := if s = pS then ptrW l else numW b l
theorem L56_val {s : List UInt8} {b : Nat} (hb : tyb s = some b) (hs : s.length ≤ 1000) {l : List Cl} (hl : l.length = (b + 7) / 8) : L56 (s, l, ()) = some ((gaW s b l, ()), ()) := by
 have h64 := z2q hb
 unfold gaW
 by_cases hp : s = pS
 ·subst hp
  rw [z5j] at hb
  injection hb with hb
  subst hb
  have h8 : l.length = 8 := by omega
  rw [if_pos rfl]
  exact L56_ptr h8
 ·rw [if_neg hp]
  exact L56_num hb hs hp (by omega)
theorem L111_val {s : List UInt8} {b : Nat} (hb : tyb s = some b) {l : List Cl} (hl : l.length = (b + 7) / 8) (hw : ∀ c ∈ l, wfC c) : L111 (s, l.map cvC, ()) = some ((gaW s b l, ()), ()) := by
 have h64 := z2q hb
 unfold gaW
 by_cases hp : s = pS
 ·rw [if_pos hp, hp]
  rw [hp] at hb
  have hb' : b = 64 := Option.some.inj (hb.symm.trans z5j)
  have h8 : l.length = 8 := by omega
  exact L111_ptr h8 hw
 ·rw [if_neg hp]
  exact L111_num hb hp (by omega)
end Go.Proofs.Rf
namespace Go.Proofs.Rf
open Go Go.RowKit
abbrev dG {C : Type} : Tl × List C := ((0, 0, false, false), [])
def Wg {C : Type} (m : List (Tl × List C)) (k off : Nat) (cs : List C) : List (Tl × List C) := m.set k ((m.getD k dG).1, (m.getD k dG).2.take off ++ cs ++ (m.getD k dG).2.drop (off + cs.length))
theorem z2h {C : Type} (m : List (Tl × List C)) (k off : Nat) : Wg m k off [] = m := by
 unfold Wg
 by_cases h : k < m.length
 ·have e : (m.getD k dG).2.take off ++ [] ++ (m.getD k dG).2.drop (off + ([] : List C).length) = (m.getD k dG).2 := by
   rw [List.append_nil, List.length_nil, Nat.add_zero, List.take_append_drop]
  rw [e]
  exact set_same m k dG h
 ·exact List.set_eq_of_length_le (by omega)
theorem Wg_get {C : Type} {m : List (Tl × List C)} {k : Nat} (h : k < m.length) (off : Nat) (cs : List C) : (Wg m k off cs).getD k dG = ((m.getD k dG).1, (m.getD k dG).2.take off ++ cs ++ (m.getD k dG).2.drop (off + cs.length)) := by
 unfold Wg
 rw [z6d _ _ _ _ _ h, if_pos rfl]
theorem Wg_other {C : Type} {m : List (Tl × List C)} {k j : Nat} (hj : j ≠ k) (off : Nat) (cs : List C) : (Wg m k off cs).getD j dG = m.getD j dG := by
 unfold Wg
 rw [List.getD_eq_getElem?_getD, List.getElem?_set, if_neg (fun q => hj q.symm), ← List.getD_eq_getElem?_getD]
theorem z2d {C : Type} (m : List (Tl × List C)) (k off : Nat) (cs : List C) : (Wg m k off cs).length = m.length := by
 unfold Wg
 rw [List.length_set]
theorem Wg_step {C : Type} {m : List (Tl × List C)} {k off : Nat} {cs : List C} (h : k < m.length) (hb : off + cs.length < (m.getD k dG).2.length) (c : C) :
  (Wg m k off cs).set k (((Wg m k off cs).getD k dG).1, ((Wg m k off cs).getD k dG).2.set (off + cs.length) c) = Wg m k off (cs ++ [c]) := by
 rw [Wg_get h]
 unfold Wg
 rw [List.set_set]
 congr 2
 have hl : ((m.getD k dG).2.take off ++ cs).length = off + cs.length := by rw [List.length_append, List.length_take, Nat.min_eq_left (by omega)]
 rw [List.set_append_right _ _ (by rw [hl]; exact Nat.le_refl _), hl, Nat.sub_self, List.drop_eq_getElem_cons hb, List.set_cons_zero, List.length_append, List.length_singleton, ← Nat.add_assoc]
 simp
theorem cv_block (m : List Bp) {k : Nat} (h : k < m.length) : (cv m).getD k dG = cvB (m.getD k dG) := z2y h
theorem cv_W {m : List Bp} {k : Nat} (h : k < m.length) (off : Nat) (cs : List Cl) : cv (Wg m k off cs) = Wg (cv m) k off (cs.map cvC) := by
 unfold Wg
 rw [cv_set, cv_block m h]
 congr 1
 unfold cvB
 simp [List.map_append, List.map_take, List.map_drop]
theorem W_inv {m : List Bp} (hI : Inv m) {k off : Nat} {cs : List Cl} (hb : off + cs.length ≤ (m.getD k dG).2.length) (hw : ∀ c ∈ cs, wfC c) : Inv (Wg m k off cs) := by
 have h0 := hI.at k
 refine hI.set k ⟨?_, fun c hc => ?_⟩
 ·have h1 : (m.getD k dG).2.length ≤ 65536 := h0.1
  simp only [List.length_append, List.length_take, List.length_drop]
  omega
 ·rcases List.mem_append.1 hc with hc | hc
  ·rcases List.mem_append.1 hc with hc | hc
   ·exact h0.2 c (List.mem_of_mem_take hc)
   ·exact hw c hc
  ·exact h0.2 c (List.mem_of_mem_drop hc)
theorem W_stp {m : List Bp} (hI : Inv m) {k off : Nat} {cs : List Cl} (hb : off + cs.length ≤ (m.getD k dG).2.length) (hw : ∀ c ∈ cs, wfC c) {u : Int} {hp : Prop} : Stp m u hp (Wg m k off cs) u :=
 ⟨W_inv hI hb hw, by rw [z2d]; omega, by omega, by omega, fun _ q => q⟩
def cel (m : List Bp) (a : Int × Int) (n : Int) : List Cl := if n ≤ 0 then [] else ((m.getD a.1.toNat dG).2.drop a.2.toNat).take n.toNat
theorem z5y {m : List Bp} {a : Int × Int} {n : Nat} (h : 0 < n → ¬ c1 m a n) : (cel m a n).length = n := by
 unfold cel
 by_cases hn : (n : Int) ≤ 0
 ·rw [if_pos hn]
  show 0 = n
  omega
 ·obtain ⟨p1, p2, p3, p4, p5, _⟩ := z2g (h (by omega))
  have p5 : a.2 + n ≤ ((m.getD a.1.toNat dG).2.length : Int) := p5
  rw [if_neg hn, List.length_take, List.length_drop, Int.toNat_natCast]
  omega
theorem cel_wf {m : List Bp} (hI : Inv m) (a : Int × Int) (n : Int) : ∀ c ∈ cel m a n, wfC c := by
 intro c hc
 unfold cel at hc
 split at hc
 ·cases hc
 ·exact (hI.at _).2 c (List.mem_of_mem_drop (List.mem_of_mem_take hc))
theorem L57v_val {m : List Bp} {a : Int × Int} {n : Int} (h : 0 < n → ¬ c1 m a n) (u al : Int) (w : Bool) : L57v ((m, u, ()), (a, n, al, w), ()) = some ((cel m a n, ()), ()) := by
 refine (F57v_eq m u a.1 a.2 n al w).trans ?_
 unfold cel
 by_cases hn : n ≤ 0
 ·rw [if_pos (decide_eq_true hn), if_pos hn]
 ·obtain ⟨p1, p2, p3, p4, p5, _⟩ := z2g (h (by omega))
  have p4 : a.2 ≤ ((m.getD a.1.toNat ((0, 0, false, false), [])).2.length : Int) := p4
  have p5 : a.2 + n ≤ ((m.getD a.1.toNat ((0, 0, false, false), [])).2.length : Int) := p5
  rw [if_neg (by rw [decide_eq_true_eq]; exact hn), if_neg hn, if_pos p1, if_pos p2, if_pos p3, if_pos p4, if_pos (Int.le_refl _), if_pos rfl, if_pos (by omega)]
  refine if_pos ?_
  rw [List.length_drop]
  omega
def prt (a : Int × Int) (n : Int) : Nat × Nat × Nat := if n ≤ 0 then (0, 0, 0) else (a.1.toNat, a.2.toNat, n.toNat)
theorem L57_val {m : List Bp} {a : Int × Int} {n : Int} (h : 0 < n → ¬ c1 m a n) (u al : Int) (w : Bool) : L57 (((), (a, n, al, w), ()), ((), u, ()), m, ()) = some (((), prt a n, ()), ((), u, ()), m, ()) := by
 refine (F57_eq a.1 a.2 n al w u m).trans ?_
 unfold prt
 by_cases hn : n ≤ 0
 ·rw [if_pos (decide_eq_true hn), if_pos hn]
 ·obtain ⟨p1, p2, p3, p4, p5, _⟩ := z2g (h (by omega))
  have p4 : a.2 ≤ ((m.getD a.1.toNat ((0, 0, false, false), [])).2.length : Int) := p4
  have p5 : a.2 + n ≤ ((m.getD a.1.toNat ((0, 0, false, false), [])).2.length : Int) := p5
  rw [if_neg (by rw [decide_eq_true_eq]; exact hn), if_neg hn, if_pos p1, if_pos p2, if_pos p3, if_pos p4, if_pos (Int.le_refl _), if_pos rfl, if_pos (by omega)]
  refine (if_pos (by omega)).trans ?_
  rw [Nat.zero_add]
theorem prt_copy (m : List Bp) (a : Int × Int) (n : Int) (src : List Cl) (hs : (src.length : Int) = n ∨ n ≤ 0 ∧ src = []) :
  List.set m (prt a n).1 ((List.getD m (prt a n).1 ((0, 0, false, false), [])).1, List.take (prt a n).2.1 (List.getD m (prt a n).1 ((0, 0, false, false), [])).2 ++ List.take (prt a n).2.2 src ++ List.drop ((prt a n).2.1 + min src.length (prt a n).2.2) (List.getD m (prt a n).1 ((0, 0, false, false), [])).2) = Wg m a.1.toNat a.2.toNat src := by
 unfold prt
 by_cases hn : n ≤ 0
 ·have : src = [] := by
   rcases hs with hs | ⟨_, hs⟩
   ·exact List.eq_nil_of_length_eq_zero (by omega)
   ·exact hs
  subst this
  rw [if_pos hn, z2h]
  exact z2h m 0 0
 ·have hs : src.length = n.toNat := by rcases hs with hs | ⟨hs, _⟩ <;> omega
  rw [if_neg hn]
  show List.set m a.1.toNat (_, _ ++ List.take n.toNat src ++ List.drop (a.2.toNat + min src.length n.toNat) _) = _
  rw [← hs, List.take_length, Nat.min_self]
  rfl
theorem ref_copy {C : Type} (m : List (Tl × List C)) (k off : Nat) (src : List C) (h : off + src.length ≤ (m.getD k dG).2.length) :
  m.set k ((m.getD k ((0, 0, false, false), [])).1, List.take (0 + off) (m.getD k ((0, 0, false, false), [])).2 ++ List.take ((m.getD k ((0, 0, false, false), [])).2.length - off) src ++ List.drop (0 + off + min src.length ((m.getD k ((0, 0, false, false), [])).2.length - off)) (m.getD k ((0, 0, false, false), [])).2) = Wg m k off src := by
 have h : off + src.length ≤ (m.getD k ((0, 0, false, false), [])).2.length := h
 rw [Nat.zero_add, List.take_of_length_le (l := src) (by omega), Nat.min_eq_left (by omega)]
 rfl
def ldW (m : List Bp) (s : List UInt8) (a : Int × Int) : Wd × Int × Unit := match tyb s with
 | none => ((0, 0, -1, 0), 13, ())
 | some b => if kd m a (((b + 7) / 8 : Nat) : Int) (alg ((b + 7) / 8)) false = -1 then (gaW s b (cel m a (((b + 7) / 8 : Nat) : Int)), -1, ()) else ((0, 0, -1, 0), kd m a (((b + 7) / 8 : Nat) : Int) (alg ((b + 7) / 8)) false, ())
theorem z5E {m : List Bp} (hI : Inv m) (u : Int) {s : List UInt8} (hs : s.length ≤ 1000) (a : Int × Int) : L16 ((m, u, ()), s, a, ()) = some (ldW m s a, ()) := by
 refine (F16_eq L51 L54 L55 L56 L57v m u s a.1 a.2).trans ?_
 rw [show L51 () = _ from z1M]
 simp only [Option.bind_some]
 unfold ldW
 cases hb : tyb s with
 | none =>
  have := L54_none hb hs a false
  rw [show L54 (s, (a.1, a.2), false, ()) = _ from this]
  rfl
 | some b =>
  have h54 : L54 (s, (a.1, a.2), false, ()) = _ := L54_val hb hs a false
  have h55 : L55 ((m, u, ()), ((a.1, a.2), (((b + 7) / 8 : Nat) : Int), (alg ((b + 7) / 8) : Int), false), ()) = _ := z5D hI u a _ _ false
  rw [h54]
  simp only [Option.bind_some]
  rw [if_neg (by decide), h55]
  simp only [Option.bind_some]
  by_cases hk : kd m a (((b + 7) / 8 : Nat) : Int) (alg ((b + 7) / 8)) false = -1
  ·have hc : 0 < (((b + 7) / 8 : Nat) : Int) → ¬ c1 m a (((b + 7) / 8 : Nat) : Int) := z0X hk
   have h57 : L57v ((m, u, ()), ((a.1, a.2), (((b + 7) / 8 : Nat) : Int), (alg ((b + 7) / 8) : Int), false), ()) = _ := L57v_val hc u _ false
   have h56 := L56_val hb hs (z5y fun q => hc (by omega))
   have hk2 : kd m (a.1, a.2) (((b + 7) / 8 : Nat) : Int) (alg ((b + 7) / 8)) false = -1 := hk
   rw [if_neg (by rw [hk2]; decide), h57]
   simp only [Option.bind_some]
   rw [show L56 (s, cel m (a.1, a.2) (((b + 7) / 8 : Nat) : Int), ()) = _ from h56]
   simp only [Option.bind_some]
   rw [if_pos hk]
  ·have hk2 : ¬ kd m (a.1, a.2) (((b + 7) / 8 : Nat) : Int) (alg ((b + 7) / 8)) false = -1 := hk
   rw [if_pos (by rw [Bool.not_eq_true', beq_eq_false_iff_ne]; exact hk2)]
   simp only [if_neg hk]
theorem gaW_0 {s : List UInt8} {b : Nat} (hb : tyb s = some b) (h0 : (b + 7) / 8 = 0) : gaW s b [] = (1, 0, -1, 0) := by
 have hb0 : b = 0 := by omega
 subst hb0
 have hp : s ≠ pS := fun q => by
  rw [q, z5j] at hb
  injection hb with hb
  cases hb
 unfold gaW
 rw [if_neg hp]
 decide
theorem L75_val {m : List Bp} (hI : Inv m) (u : Int) {s : List UInt8} (a : Int × Int) : L75 ((cv m, u, ()), s, a, ()) = some (ldW m s a, ()) := by
 refine (F75_eq L15 L103 L109 L110 L111 (cv m) u s a.1 a.2).trans ?_
 have h103 : L103 () = _ := z3P
 rw [z5F, h103]
 simp only [Option.bind_some]
 unfold ldW
 cases hb : tyb s with
 | none => rfl
 | some b =>
  have h64 := z2q hb
  rw [L109_val, hb]
  dsimp only
  generalize hn : (b + 7) / 8 = n
  have e15 : szA (some b) = ((n : Int), 0, ()) := by
   show ((((b + 7) / 8 : Nat) : Int), 0, ()) = _
   rw [hn]
  have e109 : alA (some b) = ((alg n : Int), 0, ()) := by
   show ((alg ((b + 7) / 8) : Int), 0, ()) = _
   rw [hn]
  have h110 : L110 ((cv m, u, ()), (a.1, a.2), (n : Int), (alg n : Int), false, ()) = _ := z3N hI u a n (alg n) false
  rw [e15, e109]
  simp only [Option.bind_some]
  rw [if_neg (by decide), h110]
  simp only [Option.bind_some]
  by_cases hk : kd m a (n : Int) (alg n) false = -1
  ·have hk2 : kd m (a.1, a.2) (n : Int) (alg n) false = -1 := hk
   have hc : 0 < (n : Int) → ¬ c1 m a (n : Int) := z0X hk
   rw [if_neg (by rw [hk2]; decide)]
   simp only [if_pos hk]
   by_cases h0 : n = 0
   ·subst h0
    rw [if_pos (by decide)]
    have : cel m a ((0 : Nat) : Int) = [] := rfl
    rw [this, gaW_0 hb hn]
   ·obtain ⟨p1, p2, p3, p4, p5, _⟩ := z2g (hc (by omega))
    have hB := (hI.at a.1.toNat).1
    have p4 : a.2 ≤ ((m.getD a.1.toNat dB).2.length : Int) := p4
    have p5 : a.2 + n ≤ ((m.getD a.1.toNat dB).2.length : Int) := p5
    have hg := z2y (m := m) (k := a.1.toNat) (by omega)
    have hl : ((cv m).getD a.1.toNat ((0, 0, false, false), [])).2.length = (m.getD a.1.toNat dB).2.length := by rw [show (cv m).getD a.1.toNat ((0, 0, false, false), []) = _ from hg]; simp [cvB]
    rw [if_neg (show ¬ ((n : Int) == 0) = true by rw [beq_iff_eq]; omega), if_pos p1, if_pos (by rw [z0y]; exact p2), if_pos p3, wi (by omega) (by omega), if_pos (by omega), hl, if_pos p5]
    have hl2 := z5y (m := m) (a := a) (n := n) fun q => hc (by omega)
    have e : List.drop a.2.toNat (List.take (a.2 + (n : Int)).toNat ((cv m).getD a.1.toNat ((0, 0, false, false), [])).2) = (cel m a (n : Int)).map cvC := by
     rw [show (cv m).getD a.1.toNat ((0, 0, false, false), []) = _ from hg]
     unfold cel cvB
     rw [if_neg (by omega), List.drop_take, List.map_take, List.map_drop, show (a.2 + (n : Int)).toNat - a.2.toNat = (n : Int).toNat by omega]
    rw [e, L111_val hb (by rw [hl2, hn]) (cel_wf hI a n)]
    rfl
  ·have hk2 : ¬ kd m (a.1, a.2) (n : Int) (alg n) false = -1 := hk
   rw [if_pos (by rw [Bool.not_eq_true', beq_eq_false_iff_ne]; exact hk2)]
   simp only [if_neg hk]
def stM (m : List Bp) (s : List UInt8) (a : Int × Int) (w : Wd) : Int × List Bp := match tyb s with
 | none => (13, m)
 | some b => if kd m a (((b + 7) / 8 : Nat) : Int) (alg ((b + 7) / 8)) true = -1 then (-1, Wg m a.1.toNat a.2.toNat (scL m.length s b w)) else (kd m a (((b + 7) / 8 : Nat) : Int) (alg ((b + 7) / 8)) true, m)
theorem L17_val {m : List Bp} (hI : Inv m) (u : Int) {s : List UInt8} (hs : s.length ≤ 1000) (a : Int × Int) (w : Wd) : L17 (((), s, a, w, ()), ((), u, ()), m, ()) = some (((), (stM m s a w).1, ()), ((), u, ()), (stM m s a w).2, ()) := by
 refine (F17_eq L54 L55 L57 L58 s a.1 a.2 w.1 w.2.1 w.2.2.1 w.2.2.2 u m).trans ?_
 rw [z1g]
 unfold stM
 cases hb : tyb s with
 | none =>
  have := L54_none hb hs a true
  rw [show L54 (s, (a.1, a.2), true, ()) = _ from this]
  rfl
 | some b =>
  have h54 : L54 (s, (a.1, a.2), true, ()) = _ := L54_val hb hs a true
  have h55 : L55 ((m, u, ()), ((a.1, a.2), (((b + 7) / 8 : Nat) : Int), (alg ((b + 7) / 8) : Int), true), ()) = _ := z5D hI u a _ _ true
  rw [h54]
  simp only [Option.bind_some]
  rw [if_neg (by decide), h55]
  simp only [Option.bind_some]
  by_cases hk : kd m a (((b + 7) / 8 : Nat) : Int) (alg ((b + 7) / 8)) true = -1
  ·have hc : 0 < (((b + 7) / 8 : Nat) : Int) → ¬ c1 m a (((b + 7) / 8 : Nat) : Int) := z0X hk
   have h57 : L57 (((), ((a.1, a.2), (((b + 7) / 8 : Nat) : Int), (alg ((b + 7) / 8) : Int), true), ()), ((), u, ()), m, ()) = _ := L57_val hc u _ true
   have h58 : L58 ((m, u, ()), s, (((b + 7) / 8 : Nat) : Int), (w.1, w.2.1, w.2.2.1, w.2.2.2), ()) = _ := L58_val hb hs m u w
   have hk2 : kd m (a.1, a.2) (((b + 7) / 8 : Nat) : Int) (alg ((b + 7) / 8)) true = -1 := hk
   rw [if_neg (by rw [hk2]; decide), h57]
   simp only [Option.bind_some]
   rw [h58]
   simp only [Option.bind_some, if_pos hk]
   have := prt_copy m a (((b + 7) / 8 : Nat) : Int) (scL m.length s b w) (.inl (by rw [z2l]))
   rw [← this]
  ·have hk2 : ¬ kd m (a.1, a.2) (((b + 7) / 8 : Nat) : Int) (alg ((b + 7) / 8)) true = -1 := hk
   rw [if_pos (by rw [Bool.not_eq_true', beq_eq_false_iff_ne]; exact hk2)]
   simp only [if_neg hk]
theorem stM_stp {m : List Bp} (hI : Inv m) (s : List UInt8) (a : Int × Int) (w : Wd) {u : Int} {hp : Prop} : Stp m u hp (stM m s a w).2 u := by
 unfold stM
 cases hb : tyb s with
 | none => exact .same hI
 | some b =>
  simp only
  by_cases hk : kd m a (((b + 7) / 8 : Nat) : Int) (alg ((b + 7) / 8)) true = -1
  ·rw [if_pos hk]
   by_cases h0 : (b + 7) / 8 = 0
   ·have : scL m.length s b w = [] := by unfold scL; rw [h0]; rfl
    rw [this, z2h]
    exact .same hI
   ·obtain ⟨p1, p2, p3, p4, p5, _⟩ := z2g (z0X hk (by omega))
    have p5 : a.2 + (((b + 7) / 8 : Nat) : Int) ≤ ((m.getD a.1.toNat dG).2.length : Int) := p5
    exact W_stp hI (by rw [z2l]; omega) (sc_wf _ _ _ _)
  ·rw [if_neg hk]
   exact .same hI
theorem L76_val {m : List Bp} (hI : Inv m) (u : Int) {s : List UInt8} (a : Int × Int) (w : Wd) : L76 (((), s, a, w, ()), ((), u, ()), cv m, ()) = some (((), (stM m s a w).1, ()), ((), u, ()), cv (stM m s a w).2, ()) := by
 refine (F76_eq L15 L106 L109 L110 L112 s a.1 a.2 w.1 w.2.1 w.2.2.1 w.2.2.2 u (cv m)).trans ?_
 rw [z1g, z5F]
 simp only [Option.bind_some]
 unfold stM
 cases hb : tyb s with
 | none => rfl
 | some b =>
  have h64 := z2q hb
  rw [L109_val, hb]
  dsimp only
  have h112 : ∀ w' : Wd, L112 (s, w', ()) = _ := fun w' => L112_val hb w'
  have hcv := scL_cv (s := s) (b := b) (n := m.length) w
  have hscl := z2l m.length s b w
  generalize hn : (b + 7) / 8 = n at *
  have e15 : szA (some b) = ((n : Int), 0, ()) := by
   show ((((b + 7) / 8 : Nat) : Int), 0, ()) = _
   rw [hn]
  have e109 : alA (some b) = ((alg n : Int), 0, ()) := by
   show ((alg ((b + 7) / 8) : Int), 0, ()) = _
   rw [hn]
  have h110 : L110 ((cv m, u, ()), (a.1, a.2), (n : Int), (alg n : Int), true, ()) = _ := z3N hI u a n (alg n) true
  rw [e15, e109]
  simp only [Option.bind_some]
  rw [if_neg (by decide), h110]
  simp only [Option.bind_some]
  by_cases hk : kd m a (n : Int) (alg n) true = -1
  ·have hk2 : kd m (a.1, a.2) (n : Int) (alg n) true = -1 := hk
   have hc : 0 < (n : Int) → ¬ c1 m a (n : Int) := z0X hk
   rw [if_neg (by rw [hk2]; decide)]
   simp only [if_pos hk]
   have hst : ∀ w' : Wd, (if decide ((n : Int) > 0) = true then
      (L112 (s, w', ())).bind fun y =>
       if 0 ≤ a.1 then
        if a.1 < ((cv m).length : Int) then
         if 0 ≤ a.2 then
          if a.2 ≤ (((cv m).getD a.1.toNat ((0, 0, false, false), [])).2.length : Int) then
           if (((cv m).getD a.1.toNat ((0, 0, false, false), [])).2.length : Int) ≤ (((cv m).getD a.1.toNat ((0, 0, false, false), [])).2.length : Int) then
            some (((), -1, ()), ((), u, ()), (cv m).set a.1.toNat (((cv m).getD a.1.toNat ((0, 0, false, false), [])).1,
              List.take (0 + a.2.toNat) ((cv m).getD a.1.toNat ((0, 0, false, false), [])).2 ++ List.take (((cv m).getD a.1.toNat ((0, 0, false, false), [])).2.length - a.2.toNat) y.2.1 ++
               List.drop (0 + a.2.toNat + min (List.length y.2.1) (((cv m).getD a.1.toNat ((0, 0, false, false), [])).2.length - a.2.toNat)) ((cv m).getD a.1.toNat ((0, 0, false, false), [])).2), ())
           else none
          else none
         else none
        else none
       else none
     else some (((), -1, ()), ((), u, ()), cv m, ()) : Option rs76.den) = some (((), -1, ()), ((), u, ()), Wg (cv m) a.1.toNat a.2.toNat ((List.range n).map (scK s b w')), ()) := by
    intro w'
    by_cases h0 : n = 0
    ·rw [if_neg (by rw [decide_eq_true_eq]; omega), h0]
     show some (((), -1, ()), ((), u, ()), cv m, ()) = some (((), -1, ()), ((), u, ()), Wg (cv m) a.1.toNat a.2.toNat [], ())
     rw [z2h]
    ·obtain ⟨p1, p2, p3, p4, p5, _⟩ := z2g (hc (by omega))
     have p4 : a.2 ≤ ((m.getD a.1.toNat dB).2.length : Int) := p4
     have p5 : a.2 + n ≤ ((m.getD a.1.toNat dB).2.length : Int) := p5
     have hg := z2y (m := m) (k := a.1.toNat) (by omega)
     have hl : ((cv m).getD a.1.toNat ((0, 0, false, false), [])).2.length = (m.getD a.1.toNat dB).2.length := by rw [show (cv m).getD a.1.toNat ((0, 0, false, false), []) = _ from hg]; simp [cvB]
     rw [if_pos (by rw [decide_eq_true_eq]; omega), h112]
     simp only [Option.bind_some]
     have q2 : a.1 < ((cv m).length : Int) := by rw [z0y]; exact p2
     have q4 : a.2 ≤ (((cv m).getD a.1.toNat ((0, 0, false, false), [])).2.length : Int) := by rw [hl]; exact p4
     rw [if_pos p1, if_pos q2, if_pos p3, if_pos q4, if_pos (Int.le_refl _), ref_copy]
     show a.2.toNat + ((List.range n).map (scK s b w')).length ≤ ((cv m).getD a.1.toNat ((0, 0, false, false), [])).2.length
     rw [hl, List.length_map, List.length_range]
     omega
   have hW : cv (Wg m a.1.toNat a.2.toNat (scL m.length s b w)) = Wg (cv m) a.1.toNat a.2.toNat ((List.range n).map (scK s b (refW m.length w))) := by
    by_cases h0 : n = 0
    ·have : scL m.length s b w = [] := List.eq_nil_of_length_eq_zero (by rw [hscl, h0])
     rw [this, z2h, h0]
     exact (z2h _ _ _).symm
    ·obtain ⟨p1, p2, _⟩ := z2g (hc (by omega))
     rw [cv_W (by omega), hcv]
   rw [hW]
   have h106 : L106 ((cv m, u, ()), (w.2.2.1, w.2.2.2), ()) = _ := z3O m u w.2.2
   by_cases h2 : w.1 = 2
   ·rw [if_pos (by rw [beq_iff_eq]; exact h2), h106]
    simp only [Option.bind_some]
    cases hf : fm m.length w.2.2 with
    | true =>
     rw [if_neg (by decide)]
     have : refW m.length w = w := by unfold refW; rw [if_neg (by rw [hf]; rintro ⟨_, q⟩; cases q)]
     rw [this]
     exact hst w
    | false =>
     rw [if_pos (by decide)]
     have : refW m.length w = (0, 0, 0, 0) := by unfold refW; rw [if_pos ⟨h2, hf⟩]
     rw [this]
     exact hst (0, 0, 0, 0)
   ·rw [if_neg (by rw [beq_iff_eq]; exact h2)]
    have : refW m.length w = w := by unfold refW; rw [if_neg fun q => h2 q.1]
    rw [this]
    exact hst w
  ·have hk2 : ¬ kd m (a.1, a.2) (n : Int) (alg n) true = -1 := hk
   rw [if_pos (by rw [Bool.not_eq_true', beq_eq_false_iff_ne]; exact hk2)]
   simp only [if_neg hk]
theorem meet_self {R : Type} (x : Option R) : meet x x = x := by
 unfold meet
 rw [if_pos rfl]
theorem L60_val {l : List Cl} (h : l.length ≤ 4294967296) : L60 (l, ()) = some (((), ()), l, ()) := by
 refine (F60_eq l).trans ?_
 by_cases h0 : 0 < l.length
 ·rw [if_pos h0, if_pos (by omega)]
 ·have : l = [] := List.eq_nil_of_length_eq_zero (by omega)
  subst this
  rw [if_neg h0, if_pos (by decide), meet_self]
def cpM (m : List Bp) (t f : Int × Int) (n : Int) : Int × List Bp :=
 if fstZ (-1) [kd m f n 0 false, kd m t n 0 true] = -1 then (-1, Wg m t.1.toNat t.2.toNat (cel m f n)) else (fstZ (-1) [kd m f n 0 false, kd m t n 0 true], m)
theorem fst2 {x y : Int} (h : fstZ (-1) [x, y] = -1) : x = -1 ∧ y = -1 := by
 unfold fstZ at h
 split at h
 ·rename_i hx
  refine ⟨hx, ?_⟩
  unfold fstZ at h
  split at h
  ·assumption
  ·exact h
 ·rename_i hx
  exact absurd h hx
theorem cel_len {m : List Bp} {a : Int × Int} {n : Int} (h : 0 < n → ¬ c1 m a n) : ((cel m a n).length : Int) = n ∨ n ≤ 0 ∧ cel m a n = [] := by
 by_cases hn : n ≤ 0
 ·exact .inr ⟨hn, by unfold cel; rw [if_pos hn]⟩
 ·obtain ⟨k, rfl⟩ : ∃ k : Nat, n = (k : Int) := ⟨n.toNat, by omega⟩
  have := z5y (m := m) (a := a) (n := k) fun q => h (by omega)
  rw [this]
  exact .inl rfl
theorem cel_le {m : List Bp} (hI : Inv m) (a : Int × Int) (n : Int) : (cel m a n).length ≤ 65536 := by
 unfold cel
 split
 ·simp
 ·have := (hI.at a.1.toNat).1
  have this : (m.getD a.1.toNat dG).2.length ≤ 65536 := this
  rw [List.length_take, List.length_drop]
  omega
theorem prt_cel (m : List Bp) (a : Int × Int) (n : Int) : List.take (prt a n).2.2 (List.drop (prt a n).2.1 (List.getD m (prt a n).1 ((0, 0, false, false), [])).2) = cel m a n := by
 unfold prt cel
 by_cases hn : n ≤ 0
 ·rw [if_pos hn, if_pos hn]
  rfl
 ·rw [if_neg hn, if_neg hn]
theorem L19_val {m : List Bp} (hI : Inv m) (u : Int) (t f : Int × Int) (n : Int) : L19 (((), t, f, n, ()), ((), u, ()), m, ()) = some (((), (cpM m t f n).1, ()), ((), u, ()), (cpM m t f n).2, ()) := by
 refine (F19_eq L55 L57 L59 L60 t.1 t.2 f.1 f.2 n u m).trans ?_
 rw [z1g]
 have h1 : L55 ((m, u, ()), ((f.1, f.2), n, 0, false), ()) = _ := z5D hI u f n 0 false
 have h2 : L55 ((m, u, ()), ((t.1, t.2), n, 0, true), ()) = _ := z5D hI u t n 0 true
 have h3 : L59 ([kd m (f.1, f.2) n 0 false, kd m (t.1, t.2) n 0 true], ()) = _ := L59_val _ (by simp)
 rw [h1, h2]
 simp only [Option.bind_some]
 rw [h3]
 simp only [Option.bind_some]
 unfold cpM
 by_cases hk : fstZ (-1) [kd m f n 0 false, kd m t n 0 true] = -1
 ·have hk2 : fstZ (-1) [kd m (f.1, f.2) n 0 false, kd m (t.1, t.2) n 0 true] = -1 := hk
  obtain ⟨k1, k2⟩ := fst2 hk
  have g1 : L57 (((), ((t.1, t.2), n, 0, true), ()), ((), u, ()), m, ()) = _ := L57_val (z0X k2) u 0 true
  have g2 : L57 (((), ((f.1, f.2), n, 0, false), ()), ((), u, ()), m, ()) = _ := L57_val (z0X k1) u 0 false
  rw [if_neg (by rw [hk2]; decide), if_pos hk, g1]
  simp only [Option.bind_some]
  rw [g2]
  simp only [Option.bind_some]
  rw [prt_cel m (f.1, f.2) n, show L60 (cel m (f.1, f.2) n, ()) = _ from L60_val (by have := cel_le hI f n; show (cel m f n).length ≤ _; omega)]
  simp only [Option.bind_some]
  have := prt_copy m t n (cel m f n) (cel_len (z0X k1))
  rw [← this]
 ·have hk2 : ¬ fstZ (-1) [kd m (f.1, f.2) n 0 false, kd m (t.1, t.2) n 0 true] = -1 := hk
  rw [if_pos (by rw [Bool.not_eq_true', beq_eq_false_iff_ne]; exact hk2), if_neg hk]
theorem cpM_stp {m : List Bp} (hI : Inv m) (t f : Int × Int) (n : Int) {u : Int} {hp : Prop} : Stp m u hp (cpM m t f n).2 u := by
 unfold cpM
 by_cases hk : fstZ (-1) [kd m f n 0 false, kd m t n 0 true] = -1
 ·rw [if_pos hk]
  obtain ⟨k1, k2⟩ := fst2 hk
  rcases cel_len (z0X k1) with h | ⟨_, h⟩
  ·by_cases h0 : n ≤ 0
   ·have : cel m f n = [] := List.eq_nil_of_length_eq_zero (by omega)
    rw [this, z2h]
    exact .same hI
   ·obtain ⟨p1, p2, p3, p4, p5, _⟩ := z2g (z0X k2 (by omega))
    have p5 : t.2 + n ≤ ((m.getD t.1.toNat dG).2.length : Int) := p5
    exact W_stp hI (by omega) (cel_wf hI f n)
  ·rw [h, z2h]
   exact .same hI
 ·rw [if_neg hk]
  exact .same hI
theorem L77_val {m : List Bp} (hI : Inv m) (u : Int) (t f : Int × Int) (n : Int) : L77 (((), t, f, n, ()), ((), u, ()), cv m, ()) = some (((), (cpM m t f n).1, ()), ((), u, ()), cv (cpM m t f n).2, ()) := by
 refine (F77_eq L110 t.1 t.2 f.1 f.2 n u (cv m)).trans ?_
 rw [z1g]
 have h1 : L110 ((cv m, u, ()), (f.1, f.2), n, 0, false, ()) = _ := z3N hI u f n 0 false
 have h2 : L110 ((cv m, u, ()), (t.1, t.2), n, 0, true, ()) = _ := z3N hI u t n 0 true
 rw [h1]
 simp only [Option.bind_some]
 unfold cpM
 by_cases k1 : kd m f n 0 false = -1
 ·have k1' : kd m (f.1, f.2) n 0 false = -1 := k1
  rw [if_neg (by rw [k1']; decide), h2]
  simp only [Option.bind_some]
  have e1 : fstZ (-1) [kd m f n 0 false, kd m t n 0 true] = kd m t n 0 true := by
   unfold fstZ
   rw [if_pos k1]
   unfold fstZ
   split
   ·rename_i q; rw [q]; rfl
   ·rfl
  rw [e1]
  by_cases k2 : kd m t n 0 true = -1
  ·have k2' : kd m (t.1, t.2) n 0 true = -1 := k2
   rw [if_neg (by rw [k2']; decide), if_pos k2]
   by_cases hn : n ≤ 0
   ·rw [if_neg (by rw [decide_eq_true_eq]; omega)]
    have : cel m f n = [] := by unfold cel; rw [if_pos hn]
    rw [this, z2h]
   ·obtain ⟨p1, p2, p3, p4, p5, _⟩ := z2g (z0X k1 (by omega))
    obtain ⟨r1, r2, r3, r4, r5, _⟩ := z2g (z0X k2 (by omega))
    have hBf := (hI.at f.1.toNat).1
    have hBt := (hI.at t.1.toNat).1
    have p4 : f.2 ≤ ((m.getD f.1.toNat dB).2.length : Int) := p4
    have p5 : f.2 + n ≤ ((m.getD f.1.toNat dB).2.length : Int) := p5
    have r4 : t.2 ≤ ((m.getD t.1.toNat dB).2.length : Int) := r4
    have r5 : t.2 + n ≤ ((m.getD t.1.toNat dB).2.length : Int) := r5
    have hgf := z2y (m := m) (k := f.1.toNat) (by omega)
    have hgt := z2y (m := m) (k := t.1.toNat) (by omega)
    have hlf : ((cv m).getD f.1.toNat ((0, 0, false, false), [])).2.length = (m.getD f.1.toNat dB).2.length := by rw [show (cv m).getD f.1.toNat ((0, 0, false, false), []) = _ from hgf]; simp [cvB]
    have hlt : ((cv m).getD t.1.toNat ((0, 0, false, false), [])).2.length = (m.getD t.1.toNat dB).2.length := by rw [show (cv m).getD t.1.toNat ((0, 0, false, false), []) = _ from hgt]; simp [cvB]
    have e : List.take ((f.2 + n).toNat - f.2.toNat) (List.drop (0 + f.2.toNat) ((cv m).getD f.1.toNat ((0, 0, false, false), [])).2) = (cel m f n).map cvC := by
     rw [show (cv m).getD f.1.toNat ((0, 0, false, false), []) = _ from hgf]
     unfold cel cvB
     rw [if_neg hn, List.map_take, List.map_drop, Nat.zero_add, show (f.2 + n).toNat - f.2.toNat = n.toNat by omega]
    have hlc : (cel m f n).length = n.toNat := by rcases cel_len (z0X k1) with h | ⟨h, _⟩ <;> omega
    have q2 : f.1 < ((cv m).length : Int) := by rw [z0y]; exact p2
    have s2 : t.1 < ((cv m).length : Int) := by rw [z0y]; exact r2
    have q5 : f.2 + n ≤ (((cv m).getD f.1.toNat ((0, 0, false, false), [])).2.length : Int) := by rw [hlf]; exact p5
    have s4 : t.2 ≤ (((cv m).getD t.1.toNat ((0, 0, false, false), [])).2.length : Int) := by rw [hlt]; exact r4
    rw [if_pos (by rw [decide_eq_true_eq]; omega), if_pos p1, if_pos q2, if_pos p3, wi (by omega) (by omega), if_pos (by omega), if_pos q5, e, if_pos (by rw [List.length_map, hlc]; omega), if_pos r1, if_pos s2, if_pos r3, if_pos s4, if_pos (Int.le_refl _), ref_copy]
    ·rw [cv_W (by omega)]
    ·show t.2.toNat + ((cel m f n).map cvC).length ≤ ((cv m).getD t.1.toNat ((0, 0, false, false), [])).2.length
     rw [hlt, List.length_map, hlc]
     omega
  ·have k2' : ¬ kd m (t.1, t.2) n 0 true = -1 := k2
   rw [if_pos (by rw [Bool.not_eq_true', beq_eq_false_iff_ne]; exact k2'), if_neg k2]
 ·have k1' : ¬ kd m (f.1, f.2) n 0 false = -1 := k1
  have e1 : fstZ (-1) [kd m f n 0 false, kd m t n 0 true] = kd m f n 0 false := by
   unfold fstZ
   rw [if_neg k1]
  rw [if_pos (by rw [Bool.not_eq_true', beq_eq_false_iff_ne]; exact k1'), e1, if_neg k1]
end Go.Proofs.Rf
namespace Go.Proofs.Rf
open Go Go.RowKit
theorem map_zC (n : Nat) : (List.replicate n zC).map cvC = List.replicate n zK := by
 rw [List.map_replicate]
 rfl
theorem cvB_len (b : Bp) : (cvB b).2.length = b.2.length := by simp [cvB]
theorem z4Y {m : List Bp} {k : Nat} (h : k < m.length) : ((cv m).getD k ((0, 0, false, false), [])).2.length = (m.getD k dB).2.length := by
 rw [show (cv m).getD k ((0, 0, false, false), []) = _ from z2y h, cvB_len]
def erM (m : List Bp) (a : Int × Int) (n : Int) : Int × List Bp := if kd m a n 0 true = -1 then (-1, Wg m a.1.toNat a.2.toNat (List.replicate n.toNat zC)) else (kd m a n 0 true, m)
theorem L20_val {m : List Bp} (hI : Inv m) (u : Int) (a : Int × Int) (n : Int) : L20 (((), a, n, ()), ((), u, ()), m, ()) = some (((), (erM m a n).1, ()), ((), u, ()), (erM m a n).2, ()) := by
 refine (F20_eq L55 L57 a.1 a.2 n u m).trans ?_
 rw [z1g]
 have h1 : L55 ((m, u, ()), ((a.1, a.2), n, 0, true), ()) = _ := z5D hI u a n 0 true
 rw [h1]
 simp only [Option.bind_some]
 unfold erM
 by_cases hk : kd m a n 0 true = -1
 ·have hk2 : kd m (a.1, a.2) n 0 true = -1 := hk
  have g1 : L57 (((), ((a.1, a.2), n, 0, true), ()), ((), u, ()), m, ()) = _ := L57_val (z0X hk) u 0 true
  rw [if_neg (by rw [hk2]; decide), if_pos hk, g1]
  simp only [Option.bind_some]
  unfold prt
  by_cases hn : n ≤ 0
  ·have e : List.replicate n.toNat zC = [] := by rw [show n.toNat = 0 by omega]; rfl
   rw [if_pos hn, e, z2h]
   have := z2h m 0 0
   show some (((), -1, ()), ((), u, ()), Wg m 0 0 [], ()) = _
   rw [this]
  ·rw [if_neg hn]
   have : (List.replicate n.toNat zC).length = n.toNat := by simp
   unfold Wg
   rw [this]
 ·have hk2 : ¬ kd m (a.1, a.2) n 0 true = -1 := hk
  rw [if_pos (by rw [Bool.not_eq_true', beq_eq_false_iff_ne]; exact hk2), if_neg hk]
theorem erM_stp {m : List Bp} (hI : Inv m) (a : Int × Int) (n : Int) {u : Int} {hp : Prop} : Stp m u hp (erM m a n).2 u := by
 unfold erM
 by_cases hk : kd m a n 0 true = -1
 ·rw [if_pos hk]
  by_cases hn : n ≤ 0
  ·have e : List.replicate n.toNat zC = [] := by rw [show n.toNat = 0 by omega]; rfl
   rw [e, z2h]
   exact .same hI
  ·obtain ⟨p1, p2, p3, p4, p5, _⟩ := z2g (z0X hk (by omega))
   have p5 : a.2 + n ≤ ((m.getD a.1.toNat dG).2.length : Int) := p5
   refine W_stp hI (by rw [List.length_replicate]; omega) fun c hc => ?_
   rw [List.mem_replicate] at hc
   exact .inl hc.2
 ·rw [if_neg hk]
  exact .same hI
theorem L78_val {m : List Bp} (hI : Inv m) (u : Int) (a : Int × Int) (n : Int) : L78 (((), a, n, ()), ((), u, ()), cv m, ()) = some (((), (erM m a n).1, ()), ((), u, ()), cv (erM m a n).2, ()) := by
 refine (F78_eq L110 Lg78_5 a.1 a.2 n u (cv m)).trans ?_
 rw [z1g]
 have h1 : L110 ((cv m, u, ()), (a.1, a.2), n, 0, true, ()) = _ := z3N hI u a n 0 true
 rw [h1]
 simp only [Option.bind_some]
 unfold erM
 by_cases hk : kd m a n 0 true = -1
 ·have hk2 : kd m (a.1, a.2) n 0 true = -1 := hk
  rw [if_neg (by rw [hk2]; decide), if_pos hk]
  have hg : Lg78_5 (((), n, (), 0, ()), ((), u, ()), (a.1, a.2, ()), cv m, ()) = some (((), ()), ((), u, ()), cv (Wg m a.1.toNat a.2.toNat (List.replicate n.toNat zC)), ()) := by
   by_cases hn : n ≤ 0
   ·have e : List.replicate n.toNat zC = [] := by rw [show n.toNat = 0 by omega]; rfl
    rw [e, z2h]
    exact z1q ((S78_5_eq n 0 u a.1 a.2 (cv m)).trans (if_neg (by rw [decide_eq_true_eq]; omega)))
   ·obtain ⟨p1, p2, p3, p4, p5, _⟩ := z2g (z0X hk (by omega))
    have hB := (hI.at a.1.toNat).1
    have p5 : a.2 + n ≤ ((m.getD a.1.toNat dB).2.length : Int) := p5
    have hk' : a.1.toNat < m.length := by omega
    rw [cv_W hk', map_zC]
    obtain ⟨z, h1, rfl⟩ := z0P (f := S78_5) (fun t => n.toNat - t.1.2.2.2.1.toNat)
     (fun t => ∃ i : Nat, i ≤ n.toNat ∧ t = (((), n, (), (i : Int), ()), ((), u, ()), (a.1, a.2, ()), Wg (cv m) a.1.toNat a.2.toNat (List.replicate i zK), ()))
     (fun z => z = (((), ()), ((), u, ()), Wg (cv m) a.1.toNat a.2.toNat (List.replicate n.toNat zK), ())) (by
     rintro t ⟨i, hi, rfl⟩
     rw [S78_5_eq]
     have hlen : ((Wg (cv m) a.1.toNat a.2.toNat (List.replicate i zK)).getD a.1.toNat ((0, 0, false, false), [])).2.length = (m.getD a.1.toNat dB).2.length := by
      rw [show (Wg (cv m) a.1.toNat a.2.toNat (List.replicate i zK)).getD a.1.toNat ((0, 0, false, false), []) = _ from Wg_get (by rw [z0y]; exact hk') _ _]
      have := z4Y hk'
      have this : ((cv m).getD a.1.toNat dG).2.length = (m.getD a.1.toNat dB).2.length := this
      simp only [List.length_append, List.length_take, List.length_drop, List.length_replicate, this]
      omega
     by_cases h : i < n.toNat
     ·have q2 : a.1 < ((Wg (cv m) a.1.toNat a.2.toNat (List.replicate i zK)).length : Int) := by rw [z2d, z0y]; exact p2
      rw [if_pos (by rw [decide_eq_true_eq]; omega), if_pos p1, if_pos q2, wi (n := a.2 + (i : Int)) (by omega) (by omega), if_pos (by omega), if_pos (by rw [hlen]; omega), wi (by omega) (by omega)]
      refine .inl ⟨_, rfl, ⟨i + 1, by omega, ?_⟩, ?_⟩
      ·have hs := Wg_step (m := cv m) (k := a.1.toNat) (off := a.2.toNat) (cs := List.replicate i zK) (by rw [z0y]; exact hk') (by
        have := z4Y hk'
        have this : ((cv m).getD a.1.toNat dG).2.length = (m.getD a.1.toNat dB).2.length := this
        rw [this, List.length_replicate]; omega) zK
       rw [List.length_replicate, ← List.replicate_succ'] at hs
       rw [show ((i : Int) + 1) = ((i + 1 : Nat) : Int) by omega, ← hs, show 0 + (a.2 + (i : Int)).toNat = a.2.toNat + i by omega]
      ·show n.toNat - ((i : Int) + 1).toNat < n.toNat - (i : Int).toNat
       omega
     ·have : i = n.toNat := by omega
      subst this
      rw [if_neg (by rw [decide_eq_true_eq]; omega)]
      exact .inr ⟨_, rfl, rfl⟩) (((), n, (), ((0 : Nat) : Int), ()), ((), u, ()), (a.1, a.2, ()), Wg (cv m) a.1.toNat a.2.toNat (List.replicate 0 zK), ()) ⟨0, by omega, rfl⟩
    rw [show List.replicate 0 zK = [] from rfl, z2h] at h1
    exact h1
  rw [hg]
  rfl
 ·have hk2 : ¬ kd m (a.1, a.2) n 0 true = -1 := hk
  rw [if_pos (by rw [Bool.not_eq_true', beq_eq_false_iff_ne]; exact hk2), if_neg hk]
def rdM (m : List Bp) (a : Int × Int) (n : Int) : Int × List Int :=
 if n > 65536 then (14, []) else if kd m a n 0 false = -1 then (if all1 (cel m a n) = true then (-1, (cel m a n).map (·.2.1)) else (13, [])) else (kd m a n 0 false, [])
theorem L85_val {l : List Cl} (hl : l.length ≤ 65536) : L85 (l, (), ()) = some ((!all1 l, ()), ()) := by
 refine (F85_eq L114 l).trans ?_
 have h : ∃ i : Int, L114 (l, (), ()) = some ((i, ()), ()) ∧ (decide (i ≥ 0)) = !all1 l := by
  have e : L114 (l, (), ()) = _ := F114_eq Lg114_2 l
  obtain ⟨z, h1, h2⟩ := z0P (f := S114_2 L86) (fun t => l.length - t.1.2.2.2.1.toNat)
   (fun t => ∃ i : Nat, i ≤ l.length ∧ t = ((l, (), (l.length : Int), (i : Int), ()), ()) ∧ all1 l = all1 (l.drop i))
   (fun z => (∃ i : Nat, z = .inl (((i : Int), ()), ()) ∧ all1 l = false) ∨ (z = .inr ((), ()) ∧ all1 l = true)) (by
   rintro t ⟨i, hi, rfl, ha⟩
   rw [S114_2_eq]
   by_cases h : i < l.length
   ·rw [drop_cons h] at ha
    unfold all1 at ha
    rw [List.all_cons] at ha
    rw [if_pos (by rw [decide_eq_true_eq]; omega), if_pos (by omega), if_pos (by omega), Int.toNat_natCast]
    have h86 : L86 (((l.getD i zC).1, (l.getD i zC).2.1, (l.getD i zC).2.2.1, (l.getD i zC).2.2.2), ()) = some ((!(l.getD i zC).1 == 1, ()), ()) := F86_eq _ _ _ _
    rw [show L86 (((l.getD i ((0, 0, 0, 0) : Int × Int × Int × Int)).1, (l.getD i ((0, 0, 0, 0) : Int × Int × Int × Int)).2.1, (l.getD i ((0, 0, 0, 0) : Int × Int × Int × Int)).2.2.1, (l.getD i ((0, 0, 0, 0) : Int × Int × Int × Int)).2.2.2), ()) = _ from h86]
    simp only [Option.bind_some]
    cases hc : ((l.getD i zC).1 == 1) with
    | true =>
     rw [hc, Bool.true_and] at ha
     rw [if_neg (by decide), wi (by omega) (by omega)]
     refine .inl ⟨_, rfl, ⟨i + 1, by omega, rfl, ha⟩, ?_⟩
     show l.length - ((i : Int) + 1).toNat < l.length - (i : Int).toNat
     omega
    | false =>
     rw [hc, Bool.false_and] at ha
     have ha : all1 l = false := ha
     rw [if_pos (by decide)]
     exact .inr ⟨_, rfl, .inl ⟨i, rfl, ha⟩⟩
   ·rw [List.drop_of_length_le (by omega)] at ha
    have ha : all1 l = true := ha
    rw [if_neg (by rw [decide_eq_true_eq]; omega)]
    exact .inr ⟨_, rfl, .inr ⟨rfl, ha⟩⟩) ((l, (), (l.length : Int), ((0 : Nat) : Int), ()), ()) ⟨0, by omega, rfl, by rw [List.drop_zero]⟩
  have h1 : Lg114_2 ((l, (), (l.length : Int), 0, ()), ()) = some z := h1
  rw [h1] at e
  rcases h2 with ⟨i, rfl, ha⟩ | ⟨rfl, ha⟩
  ·exact ⟨(i : Int), e, by rw [ha, decide_eq_true (show (i : Int) ≥ 0 by omega)]; rfl⟩
  ·exact ⟨-1, e, by rw [ha]; rfl⟩
 obtain ⟨i, h1, h2⟩ := h
 rw [h1]
 simp only [Option.bind_some]
 rw [h2]
theorem L87_val {l : List Cl} (hl : l.length ≤ 65536) : L87 (l, (), ()) = some (((), ()), l.map (·.2.1), ()) := by
 refine (F87_eq Lg87_3 l).trans ?_
 obtain ⟨z, h1, rfl⟩ := z0P (f := S87_3 L88) (fun t => l.length - t.1.2.2.2.2.1.toNat)
  (fun t => ∃ i : Nat, i ≤ l.length ∧ t = (((), (), l, (l.length : Int), (i : Int), ()), (l.take i).map (·.2.1), ()))
  (fun z => z = (((), ()), l.map (·.2.1), ())) (by
  rintro t ⟨i, hi, rfl⟩
  rw [S87_3_eq]
  by_cases h : i < l.length
  ·have h88 : L88 (((l.getD i zC).1, (l.getD i zC).2.1, (l.getD i zC).2.2.1, (l.getD i zC).2.2.2), ()) = some (((l.getD i zC).2.1, ()), ()) := F88_eq _ _ _ _
   rw [if_pos (by rw [decide_eq_true_eq]; omega), if_pos (by omega), if_pos (by omega), Int.toNat_natCast, show L88 (((l.getD i ((0, 0, 0, 0) : Int × Int × Int × Int)).1, (l.getD i ((0, 0, 0, 0) : Int × Int × Int × Int)).2.1, (l.getD i ((0, 0, 0, 0) : Int × Int × Int × Int)).2.2.1, (l.getD i ((0, 0, 0, 0) : Int × Int × Int × Int)).2.2.2), ()) = _ from h88]
   simp only [Option.bind_some]
   rw [if_pos (by simp; omega), wi (by omega) (by omega)]
   refine .inl ⟨_, rfl, ⟨i + 1, by omega, ?_⟩, ?_⟩
   ·rw [← z4s (d := zC) h, List.map_append]
    rfl
   ·show l.length - ((i : Int) + 1).toNat < l.length - (i : Int).toNat
    omega
  ·rw [if_neg (by rw [decide_eq_true_eq]; omega), List.take_of_length_le (by omega)]
   exact .inr ⟨_, rfl, rfl⟩) (((), (), l, (l.length : Int), ((0 : Nat) : Int), ()), (l.take 0).map (·.2.1), ()) ⟨0, by omega, rfl⟩
 have h1 : Lg87_3 (((), (), l, (l.length : Int), 0, ()), [], ()) = _ := h1
 rw [h1]
 rfl
theorem L42_val {m : List Bp} (hI : Inv m) (u : Int) (a : Int × Int) (n : Int) : L42 ((m, u, ()), a, n, ()) = some (((), (rdM m a n).1, ()), (rdM m a n).2, ()) := by
 refine (F42_eq L55 L57v L85 L87 m u a.1 a.2 n).trans ?_
 unfold rdM
 by_cases h : n > 65536
 ·rw [if_pos (decide_eq_true h), if_pos h]
 ·have h1 : L55 ((m, u, ()), ((a.1, a.2), n, 0, false), ()) = _ := z5D hI u a n 0 false
  rw [if_neg (by rw [decide_eq_true_eq]; exact h), if_neg h, h1]
  simp only [Option.bind_some]
  by_cases hk : kd m a n 0 false = -1
  ·have hk2 : kd m (a.1, a.2) n 0 false = -1 := hk
   have g1 : L57v ((m, u, ()), ((a.1, a.2), n, 0, false), ()) = _ := L57v_val (z0X hk) u 0 false
   rw [if_neg (by rw [hk2]; decide), if_pos hk, g1]
   simp only [Option.bind_some]
   rw [show L85 (cel m (a.1, a.2) n, (), ()) = _ from L85_val (cel_le hI a n)]
   simp only [Option.bind_some]
   cases ha : all1 (cel m (a.1, a.2) n) with
   | true =>
    rw [if_neg (by decide), if_pos rfl, show L87 (cel m (a.1, a.2) n, (), ()) = _ from L87_val (cel_le hI a n)]
    rfl
   | false =>
    rw [if_pos (by decide), if_neg (by decide)]
  ·have hk2 : ¬ kd m (a.1, a.2) n 0 false = -1 := hk
   rw [if_pos (by rw [Bool.not_eq_true', beq_eq_false_iff_ne]; exact hk2), if_neg hk]
theorem L79_val {m : List Bp} (hI : Inv m) (u : Int) (a : Int × Int) (n : Int) : L79 ((cv m, u, ()), a, n, ()) = some (((), (rdM m a n).1, ()), (rdM m a n).2, ()) := by
 refine (F79_eq L110 Lg79_8 (cv m) u a.1 a.2 n).trans ?_
 unfold rdM
 by_cases h : n > 65536
 ·rw [if_pos (decide_eq_true h), if_pos h]
 ·have h1 : L110 ((cv m, u, ()), (a.1, a.2), n, 0, false, ()) = _ := z3N hI u a n 0 false
  rw [if_neg (by rw [decide_eq_true_eq]; exact h), if_neg h, h1]
  simp only [Option.bind_some]
  by_cases hk : kd m a n 0 false = -1
  ·have hk2 : kd m (a.1, a.2) n 0 false = -1 := hk
   rw [if_neg (by rw [hk2]; decide), if_pos hk]
   have hg : Lg79_8 (((cv m, u, ()), n, (), (), 0, ()), (a.1, a.2, ()), [], ()) = some (if all1 (cel m a n) = true then .inr (((), ()), (cel m a n).map (·.2.1), ()) else .inl (((), 13, ()), ())) := by
    by_cases hn : n ≤ 0
    ·have e : cel m a n = [] := by unfold cel; rw [if_pos hn]
     rw [e]
     exact z1q ((S79_8_eq (cv m) u n 0 a.1 a.2 []).trans (if_neg (by rw [decide_eq_true_eq]; omega)))
    ·obtain ⟨p1, p2, p3, p4, p5, _⟩ := z2g (z0X hk (by omega))
     have hB := (hI.at a.1.toNat).1
     have p5 : a.2 + n ≤ ((m.getD a.1.toNat dB).2.length : Int) := p5
     have hk' : a.1.toNat < m.length := by omega
     have hlc : (cel m a n).length = n.toNat := by rcases cel_len (z0X hk) with h | ⟨h, _⟩ <;> omega
     have hget : ∀ i : Nat, i < n.toNat → (((cv m).getD a.1.toNat ((0, 0, false, false), [])).2.getD (a.2.toNat + i) zK) = cvC ((cel m a n).getD i zC) := by
      intro i hi
      rw [show (cv m).getD a.1.toNat ((0, 0, false, false), []) = _ from z2y hk']
      unfold cvB
      have hlt : a.2.toNat + i < (m.getD a.1.toNat dB).2.length := by omega
      rw [cv_get hlt]
      congr 1
      unfold cel
      rw [if_neg hn]
      have e1 : i < (List.take n.toNat (List.drop a.2.toNat (m.getD a.1.toNat dG).2)).length := by
       have : (m.getD a.1.toNat dG).2.length = (m.getD a.1.toNat dB).2.length := rfl
       rw [List.length_take, List.length_drop]
       omega
      rw [z1s zC hlt, z1s zC e1, List.getElem_take, List.getElem_drop]
     obtain ⟨z, h1, rfl⟩ := z0P (f := S79_8) (fun t => n.toNat - t.1.2.2.2.2.1.toNat)
      (fun t => ∃ i : Nat, i ≤ n.toNat ∧ t = (((cv m, u, ()), n, (), (), (i : Int), ()), (a.1, a.2, ()), ((cel m a n).take i).map (·.2.1), ()) ∧ all1 (cel m a n) = all1 ((cel m a n).drop i))
      (fun z => z = (if all1 (cel m a n) = true then .inr (((), ()), (cel m a n).map (·.2.1), ()) else .inl (((), 13, ()), ()))) (by
      rintro t ⟨i, hi, rfl, ha⟩
      rw [S79_8_eq]
      by_cases h : i < n.toNat
      ·rw [drop_cons (by omega)] at ha
       unfold all1 at ha
       rw [List.all_cons] at ha
       have q2 : a.1 < ((cv m).length : Int) := by rw [z0y]; exact p2
       rw [if_pos (by rw [decide_eq_true_eq]; omega), if_pos p1, if_pos q2, wi (n := a.2 + (i : Int)) (by omega) (by omega), if_pos (by omega), if_pos (by rw [z4Y hk']; omega), show (a.2 + (i : Int)).toNat = a.2.toNat + i by omega]
       rw [show List.getD ((cv m).getD a.1.toNat ((0, 0, false, false), [])).2 (a.2.toNat + i) ((0, 0, (0, 0), 0) : Int × Int × (Int × Int) × Int) = _ from hget i h, z2F]
       cases hc : (((cel m a n).getD i zC).1 == 1) with
       | true =>
        rw [hc, Bool.true_and] at ha
        rw [if_neg (by decide), if_pos (by simp; omega), wi (by omega) (by omega), cvC_num (by rwa [beq_iff_eq] at hc)]
        refine .inl ⟨_, rfl, ⟨i + 1, by omega, ?_, ha⟩, ?_⟩
        ·rw [← z4s (d := zC) (by omega : i < (cel m a n).length), List.map_append]
         rfl
        ·show n.toNat - ((i : Int) + 1).toNat < n.toNat - (i : Int).toNat
         omega
       | false =>
        rw [hc, Bool.false_and] at ha
        have ha : all1 (cel m a n) = false := ha
        rw [if_pos (by decide), ha]
        exact .inr ⟨_, rfl, rfl⟩
      ·rw [List.drop_of_length_le (by omega)] at ha
       have ha : all1 (cel m a n) = true := ha
       rw [if_neg (by rw [decide_eq_true_eq]; omega), List.take_of_length_le (by omega), if_pos ha]
       exact .inr ⟨_, rfl, rfl⟩) (((cv m, u, ()), n, (), (), ((0 : Nat) : Int), ()), (a.1, a.2, ()), ((cel m a n).take 0).map (·.2.1), ()) ⟨0, by omega, rfl, by rw [List.drop_zero]⟩
     exact h1
   rw [hg]
   by_cases ha : all1 (cel m a n) = true
   ·simp only [if_pos ha]
    rfl
   ·simp only [if_neg ha]
    rfl
  ·have hk2 : ¬ kd m (a.1, a.2) n 0 false = -1 := hk
   rw [if_pos (by rw [Bool.not_eq_true', beq_eq_false_iff_ne]; exact hk2), if_neg hk]
end Go.Proofs.Rf
