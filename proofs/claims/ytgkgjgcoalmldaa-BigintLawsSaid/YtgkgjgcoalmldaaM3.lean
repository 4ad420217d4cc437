/- Texts put together: D40, E400, P3, P4. -/
import Derived.Test.YtgkgjgcoalmldaaM2
/- The functions of the program as functions over data. -/
namespace Go.Proofs.Rf
open Go Go.RowKit
abbrev tb : Tab := tabOf tyTab
theorem mixed : Try.prog.follows .mixedOrders = true := by kernel_rfl
abbrev tN : Ty := .sl (.int .u32)
abbrev tU : Ty := .int .u32
abbrev tI : Ty := .int .i64
abbrev tZ : Ty := .pr .bool tN
abbrev El115 := Int × Int
abbrev psh115 : Shape := ⟨[(1, .pt 0 0)], [.box [.d false tN]]⟩
abbrev head115 : Shape := ⟨[(1, .pt 0 0), (3, .d false tI)], [.box [.d false tN]]⟩
abbrev Dt115 := psh115.den → Option (List El115)
def avs115 (e : El115) : List AV := [.d tI e.1, .d tU e.2]
def encs115 (e : El115) : List Value := [.int .i64 e.1, .int .u32 e.2]
abbrev cap115 (D : Dt115) : (Nat → Blk) → List AV → Option (List El115) := capG psh115 D
theorem rel115 (w : World) (ok : Nat → Prop) (ι : Nat → Option Value) (e : El115) : RelL w ok ι (avs115 e) (encs115 e) := RelL_cons.2 ⟨_, _, rfl, rel_int.2 rfl, RelL_cons.2 ⟨_, _, rfl, rel_int.2 rfl, RelL_nil.2 rfl⟩⟩
def elOf115 : List AV → Option El115
  | [.d (.int .i64) i, .d (.int .u32) x] => some (i, x)
  | _ => none
theorem el115 (args : List AV) (e : El115) (w : World) (ok : Nat → Prop) (ι : Nat → Option Value) (vals : List Value) (h : elOf115 args = some e) (hr : RelL w ok ι args vals) : vals = encs115 e := by
  unfold elOf115 at h
  split at h
  · injection h with h
    subst h
    obtain ⟨v, vr, e1, h1, h2⟩ := RelL_cons.1 hr
    obtain ⟨v', vr', e2, h3, h4⟩ := RelL_cons.1 h2
    rw [e1, e2, rel_int.1 h1, rel_int.1 h3, RelL_nil.1 h4]
    rfl
  · cases h
noncomputable def B115 : psh115.den → Option head115.den := startY tb (lookL []) (roundOk (upTo 19) (rangeN 0 2)) (lookL []) (some (preOf Try.f115)) head115 psh115
noncomputable def Y115 : head115.den → Option (RY head115.den El115) := stepY tb (lookL []) (roundOk (upTo 19) (rangeN 0 2)) (lookL []) 3 6 head115 head115 elOf115 0 (loopOf Try.f115 1)
theorem it115 {D : Dt115} (hD : Coll B115 Y115 D) : IterOK Try.prog 115 encs115 (cap115 D) :=
  iterOK_at mixed tabOK (Δ := []) trivial ⟨Try.func115, by kernel_rfl, by kernel_rfl, by kernel_rfl, by kernel_rfl, by kernel_rfl, by kernel_rfl, by kernel_rfl, by kernel_rfl, by kernel_rfl, by kernel_rfl, by kernel_rfl, by kernel_rfl, by kernel_rfl⟩ el115
    (loopsAt_zip (Λ := []) (cs := []) (by kernel_rfl) (by kernel_rfl) (by kernel_rfl) trivial) (fun p hp => by injection hp with hp; subst hp; exact loopsAt_zip (Λ := []) (cs := []) (by kernel_rfl) (by kernel_rfl) (by kernel_rfl) trivial) hD
abbrev El98 := Int
abbrev psh98 : Shape := ⟨[(1, .pt 0 0), (2, .pt 1 0)], [.box [.d false tN], .box [.d false tU]]⟩
abbrev Dt98 := psh98.den → Option (List El98)
def avs98 (e : El98) : List AV := [.d tU e]
def encs98 (e : El98) : List Value := [.int .u32 e]
abbrev cap98 (D : Dt98) : (Nat → Blk) → List AV → Option (List El98) := capG psh98 D
theorem rel98 (w : World) (ok : Nat → Prop) (ι : Nat → Option Value) (e : El98) : RelL w ok ι (avs98 e) (encs98 e) := RelL_cons.2 ⟨_, _, rfl, rel_int.2 rfl, RelL_nil.2 rfl⟩
def elOf98 : List AV → Option El98
  | [.d (.int .u32) x] => some x
  | _ => none
theorem el98 (args : List AV) (e : El98) (w : World) (ok : Nat → Prop) (ι : Nat → Option Value) (vals : List Value) (h : elOf98 args = some e) (hr : RelL w ok ι args vals) : vals = encs98 e := by
  unfold elOf98 at h
  split at h
  · injection h with h
    subst h
    obtain ⟨v, vr, e1, h1, h2⟩ := RelL_cons.1 hr
    rw [e1, rel_int.1 h1, RelL_nil.1 h2]
    rfl
  · cases h
/-! 52 bowline/bigint.first -/
abbrev ps52 : List SV := [.d false (.sl tI)]
abbrev rs52 : Shape := ⟨[(0, .d false tI)], []⟩
abbrev sh52_2 : Shape := ⟨[(5, .d false (.sl tI)), (6, .d false tI), (7, .d false tI)], []⟩
abbrev w52_2 : List Way := [(none, ⟨[(2, .d false tI)], []⟩), (some 0, ⟨[], []⟩)]
noncomputable def S52_2 : sh52_2.den → Option (sh52_2.den ⊕ denX w52_2) := stepFn tb [] [] (upTo 15) Try.f52 2 sh52_2 w52_2
noncomputable def F52 (g52_2 : sh52_2.den → Option (denX w52_2)) : (SV.denL ps52) → Option (rs52).den := runFn tb [] [(2, lp sh52_2 w52_2 g52_2)] Try.f52 ps52 rs52
theorem call52 {g52_2 : sh52_2.den → Option (denX w52_2)} (hg52_2 : Lim (S52_2) g52_2) : CallOK Try.prog 52 (mkCall ps52 rs52 (F52 g52_2)) :=
  runFn_ok mixed tabOK (Δ := []) trivial ⟨Try.func52, rfl, by kernel_rfl, by kernel_rfl, by kernel_rfl, by kernel_rfl⟩ rfl (loopsAt_zip (cs := [.loop (loopOf Try.f52 2)]) (by kernel_rfl) (by kernel_rfl) (by kernel_rfl) ⟨stepLim_ok mixed tabOK (Δ := []) trivial hg52_2 (loopsAt_zip (Λ := []) (cs := []) (by kernel_rfl) (by kernel_rfl) (by kernel_rfl) trivial), trivial⟩)
/-! 53 bowline/bigint.when -/
abbrev ps53 : List SV := [.d false .bool, .d false tI]
abbrev rs53 : Shape := ⟨[(0, .d false tI)], []⟩
noncomputable def F53 : (SV.denL ps53) → Option (rs53).den := runFn tb [] [] Try.f53 ps53 rs53
theorem call53 : CallOK Try.prog 53 (mkCall ps53 rs53 (F53)) :=
  runFn_ok mixed tabOK (Δ := []) trivial ⟨Try.func53, rfl, by kernel_rfl, by kernel_rfl, by kernel_rfl, by kernel_rfl⟩ rfl (loopsAt_zip (Λ := []) (cs := []) (by kernel_rfl) (by kernel_rfl) (by kernel_rfl) trivial)
/-! 54 bowline/bigint.isBase -/
abbrev ps54 : List SV := [.d false tI]
abbrev rs54 : Shape := ⟨[(0, .d false .bool)], []⟩
noncomputable def F54 : (SV.denL ps54) → Option (rs54).den := runFn tb [] [] Try.f54 ps54 rs54
theorem call54 : CallOK Try.prog 54 (mkCall ps54 rs54 (F54)) :=
  runFn_ok mixed tabOK (Δ := []) trivial ⟨Try.func54, rfl, by kernel_rfl, by kernel_rfl, by kernel_rfl, by kernel_rfl⟩ rfl (loopsAt_zip (Λ := []) (cs := []) (by kernel_rfl) (by kernel_rfl) (by kernel_rfl) trivial)
/-! 112 internal/stringslite.HasPrefix -/
abbrev ps112 : List SV := [.d false .str, .d false .str]
abbrev rs112 : Shape := ⟨[(0, .d false .bool)], []⟩
noncomputable def F112 : (SV.denL ps112) → Option (rs112).den := runFn tb [] [] Try.f112 ps112 rs112
theorem call112 : CallOK Try.prog 112 (mkCall ps112 rs112 (F112)) :=
  runFn_ok mixed tabOK (Δ := []) trivial ⟨Try.func112, rfl, by kernel_rfl, by kernel_rfl, by kernel_rfl, by kernel_rfl⟩ rfl (loopsAt_zip (Λ := []) (cs := []) (by kernel_rfl) (by kernel_rfl) (by kernel_rfl) trivial)
/-! 95 internal/stringslite.TrimPrefix -/
abbrev ps95 : List SV := [.d false .str, .d false .str]
abbrev rs95 : Shape := ⟨[(0, .d false .str)], []⟩
noncomputable def F95 (F112 : (SV.denL ps112) → Option (rs112).den) : (SV.denL ps95) → Option (rs95).den := runFn tb [(112, mkCall ps112 rs112 F112)] [] Try.f95 ps95 rs95
theorem call95 {F112 : (SV.denL ps112) → Option (rs112).den} (h112 : CallOK Try.prog 112 (mkCall ps112 rs112 F112)) : CallOK Try.prog 95 (mkCall ps95 rs95 (F95 F112)) :=
  runFn_ok mixed tabOK (Δ := [(112, mkCall ps112 rs112 F112)]) ⟨h112, trivial⟩ ⟨Try.func95, rfl, by kernel_rfl, by kernel_rfl, by kernel_rfl, by kernel_rfl⟩ rfl (loopsAt_zip (Λ := []) (cs := []) (by kernel_rfl) (by kernel_rfl) (by kernel_rfl) trivial)
/-! 56 strings.TrimPrefix -/
abbrev ps56 : List SV := [.d false .str, .d false .str]
abbrev rs56 : Shape := ⟨[(0, .d false .str)], []⟩
noncomputable def F56 (F95 : (SV.denL ps95) → Option (rs95).den) : (SV.denL ps56) → Option (rs56).den := runFn tb [(95, mkCall ps95 rs95 F95)] [] Try.f56 ps56 rs56
theorem call56 {F95 : (SV.denL ps95) → Option (rs95).den} (h95 : CallOK Try.prog 95 (mkCall ps95 rs95 F95)) : CallOK Try.prog 56 (mkCall ps56 rs56 (F56 F95)) :=
  runFn_ok mixed tabOK (Δ := [(95, mkCall ps95 rs95 F95)]) ⟨h95, trivial⟩ ⟨Try.func56, rfl, by kernel_rfl, by kernel_rfl, by kernel_rfl, by kernel_rfl⟩ rfl (loopsAt_zip (Λ := []) (cs := []) (by kernel_rfl) (by kernel_rfl) (by kernel_rfl) trivial)
/-! 60 bowline/bigint.digit -/
abbrev ps60 : List SV := [.d false (.int .i32)]
abbrev rs60 : Shape := ⟨[(0, .d false tI)], []⟩
noncomputable def F60 : (SV.denL ps60) → Option (rs60).den := runFn tb [] [] Try.f60 ps60 rs60
theorem call60 : CallOK Try.prog 60 (mkCall ps60 rs60 (F60)) :=
  runFn_ok mixed tabOK (Δ := []) trivial ⟨Try.func60, rfl, by kernel_rfl, by kernel_rfl, by kernel_rfl, by kernel_rfl⟩ rfl (loopsAt_zip (Λ := []) (cs := []) (by kernel_rfl) (by kernel_rfl) (by kernel_rfl) trivial)
/-! 55 bowline/bigint.isNumeral -/
abbrev ps55 : List SV := [.d false .str, .d false tI]
abbrev rs55 : Shape := ⟨[(0, .d false .bool)], []⟩
abbrev sh55_5 : Shape := ⟨[(1, .d false tI), (27, .pt 0 0)], [.it]⟩
abbrev w55_5 : List Way := [(none, ⟨[(4, .d false .bool)], []⟩), (some 0, ⟨[], []⟩)]
noncomputable def S55_5 (F60 : (SV.denL ps60) → Option (rs60).den) : sh55_5.den → Option (sh55_5.den ⊕ denX w55_5) := stepFn tb [(60, mkCall ps60 rs60 F60)] [] (upTo 35) Try.f55 5 sh55_5 w55_5
noncomputable def F55 (F56 : (SV.denL ps56) → Option (rs56).den) (g55_5 : sh55_5.den → Option (denX w55_5)) : (SV.denL ps55) → Option (rs55).den := runFn tb [(56, mkCall ps56 rs56 F56)] [(5, lp sh55_5 w55_5 g55_5)] Try.f55 ps55 rs55
theorem call55 {F56 : (SV.denL ps56) → Option (rs56).den} {F60 : (SV.denL ps60) → Option (rs60).den} {g55_5 : sh55_5.den → Option (denX w55_5)} (h56 : CallOK Try.prog 56 (mkCall ps56 rs56 F56)) (h60 : CallOK Try.prog 60 (mkCall ps60 rs60 F60)) (hg55_5 : Lim (S55_5 F60) g55_5) : CallOK Try.prog 55 (mkCall ps55 rs55 (F55 F56 g55_5)) :=
  runFn_ok mixed tabOK (Δ := [(56, mkCall ps56 rs56 F56)]) ⟨h56, trivial⟩ ⟨Try.func55, rfl, by kernel_rfl, by kernel_rfl, by kernel_rfl, by kernel_rfl⟩ rfl (loopsAt_zip (cs := [.loop (loopOf Try.f55 5)]) (by kernel_rfl) (by kernel_rfl) (by kernel_rfl) ⟨stepLim_ok mixed tabOK (Δ := [(60, mkCall ps60 rs60 F60)]) ⟨h60, trivial⟩ hg55_5 (loopsAt_zip (Λ := []) (cs := []) (by kernel_rfl) (by kernel_rfl) (by kernel_rfl) trivial), trivial⟩)
/-! 97 slices.Clone[[]uint32,uint32] -/
abbrev ps97 : List SV := [.d false tN]
abbrev rs97 : Shape := ⟨[(0, .d false tN)], []⟩
noncomputable def F97 : (SV.denL ps97) → Option (rs97).den := runFn tb [] [] Try.f97 ps97 rs97
theorem call97 : CallOK Try.prog 97 (mkCall ps97 rs97 (F97)) :=
  runFn_ok mixed tabOK (Δ := []) trivial ⟨Try.func97, rfl, by kernel_rfl, by kernel_rfl, by kernel_rfl, by kernel_rfl⟩ rfl (loopsAt_zip (Λ := []) (cs := []) (by kernel_rfl) (by kernel_rfl) (by kernel_rfl) trivial)
theorem meet_self {R : Type} (x : Option R) : meet x x = x := by unfold meet; rw [if_pos rfl]
theorem F97_at (s : List Int) : F97 (s, ()) = if 0 < s.length then (if 0 + s.length ≤ 4294967296 then some ((s, ()), ()) else none) else meet (some (([], ()), ())) (if 0 + s.length ≤ 4294967296 then some ((s, ()), ()) else none) := by kernel_rfl
def C97 : (SV.denL ps97) → Option (rs97).den := fun x => if Nat.ble (List.length x.1) 4294967296 = true then some ((x.1, ()), ()) else none
theorem F97_C : F97 = C97 := by
  funext x
  obtain ⟨s, ⟨⟩⟩ := x
  rw [F97_at]
  unfold C97
  simp only [Nat.zero_add, Nat.ble_eq]
  split
  · rfl
  · have hs : s = [] := List.length_eq_zero_iff.1 (by omega)
    subst hs
    simp only [List.length_nil, Nat.zero_le, if_true]
    exact meet_self _
theorem callC97 : CallOK Try.prog 97 (mkCall ps97 rs97 C97) := by rw [← F97_C]; exact call97
/-! 61 bowline/bigint.whole -/
abbrev ps61 : List SV := [.d false .bool, .d false tN]
abbrev rs61 : Shape := ⟨[(0, .d true tZ)], []⟩
noncomputable def F61 (F97 : (SV.denL ps97) → Option (rs97).den) : (SV.denL ps61) → Option (rs61).den := runFn tb [(97, mkCall ps97 rs97 F97)] [] Try.f61 ps61 rs61
theorem call61 {F97 : (SV.denL ps97) → Option (rs97).den} (h97 : CallOK Try.prog 97 (mkCall ps97 rs97 F97)) : CallOK Try.prog 61 (mkCall ps61 rs61 (F61 F97)) :=
  runFn_ok mixed tabOK (Δ := [(97, mkCall ps97 rs97 F97)]) ⟨h97, trivial⟩ ⟨Try.func61, rfl, by kernel_rfl, by kernel_rfl, by kernel_rfl, by kernel_rfl⟩ rfl (loopsAt_zip (Λ := []) (cs := []) (by kernel_rfl) (by kernel_rfl) (by kernel_rfl) trivial)
/-! 96 (bowline/bigint.natural).trimmed -/
abbrev ps96 : List SV := [.d false tN]
abbrev rs96 : Shape := ⟨[(0, .d false tN)], []⟩
abbrev sh96_2 : Shape := ⟨[(0, .d false tN), (3, .d false tI)], []⟩
abbrev w96_2 : List Way := [(some 0, sh96_2)]
noncomputable def S96_2 : sh96_2.den → Option (sh96_2.den ⊕ denX w96_2) := stepFn tb [] [] (upTo 21) Try.f96 2 sh96_2 w96_2
noncomputable def F96 (g96_2 : sh96_2.den → Option (denX w96_2)) : (SV.denL ps96) → Option (rs96).den := runFn tb [] [(2, lp sh96_2 w96_2 g96_2)] Try.f96 ps96 rs96
theorem call96 {g96_2 : sh96_2.den → Option (denX w96_2)} (hg96_2 : Lim (S96_2) g96_2) : CallOK Try.prog 96 (mkCall ps96 rs96 (F96 g96_2)) :=
  runFn_ok mixed tabOK (Δ := []) trivial ⟨Try.func96, rfl, by kernel_rfl, by kernel_rfl, by kernel_rfl, by kernel_rfl⟩ rfl (loopsAt_zip (cs := [.loop (loopOf Try.f96 2)]) (by kernel_rfl) (by kernel_rfl) (by kernel_rfl) ⟨stepLim_ok mixed tabOK (Δ := []) trivial hg96_2 (loopsAt_zip (Λ := []) (cs := []) (by kernel_rfl) (by kernel_rfl) (by kernel_rfl) trivial), trivial⟩)
/-! 57 (bowline/bigint.natural).times -/
abbrev ps57 : List SV := [.d false tN, .d false tN]
abbrev rs57 : Shape := ⟨[(0, .d false tN)], []⟩
abbrev sh57_7 : Shape := ⟨[(1, .d false tN), (5, .rf 0), (6, .d false tI), (7, .d false tU), (8, .d false (.int .u64)), (18, .d false tN), (19, .d false tI), (20, .d false tI), (25, .d false tN), (26, .d false tI), (27, .d false tI)], [.row tU 76]⟩
abbrev w57_7 : List Way := [(some 2, ⟨[(1, .d false tN), (5, .rf 0), (6, .d false tI), (8, .d false (.int .u64)), (18, .d false tN), (19, .d false tI), (20, .d false tI)], [.row tU 76]⟩)]
abbrev sh57_3 : Shape := ⟨[(1, .d false tN), (5, .rf 0), (18, .d false tN), (19, .d false tI), (20, .d false tI)], [.row tU 76]⟩
abbrev w57_3 : List Way := [(some 0, ⟨[(5, .rf 0)], [.row tU 76]⟩)]
noncomputable def S57_7 : sh57_7.den → Option (sh57_7.den ⊕ denX w57_7) := stepFn tb [] [] (upTo 71) Try.f57 7 sh57_7 w57_7
noncomputable def S57_3 (g57_7 : sh57_7.den → Option (denX w57_7)) : sh57_3.den → Option (sh57_3.den ⊕ denX w57_3) := stepFn tb [] [(7, lp sh57_7 w57_7 g57_7)] (upTo 71) Try.f57 3 sh57_3 w57_3
noncomputable def F57 (F96 : (SV.denL ps96) → Option (rs96).den) (g57_3 : sh57_3.den → Option (denX w57_3)) : (SV.denL ps57) → Option (rs57).den := runFn tb [(96, mkCall ps96 rs96 F96)] [(3, lp sh57_3 w57_3 g57_3)] Try.f57 ps57 rs57
theorem call57 {F96 : (SV.denL ps96) → Option (rs96).den} {g57_7 : sh57_7.den → Option (denX w57_7)} {g57_3 : sh57_3.den → Option (denX w57_3)} (h96 : CallOK Try.prog 96 (mkCall ps96 rs96 F96)) (hg57_7 : Lim (S57_7) g57_7) (hg57_3 : Lim (S57_3 g57_7) g57_3) : CallOK Try.prog 57 (mkCall ps57 rs57 (F57 F96 g57_3)) :=
  runFn_ok mixed tabOK (Δ := [(96, mkCall ps96 rs96 F96)]) ⟨h96, trivial⟩ ⟨Try.func57, rfl, by kernel_rfl, by kernel_rfl, by kernel_rfl, by kernel_rfl⟩ rfl (loopsAt_zip (cs := [.loop (loopOf Try.f57 3)]) (by kernel_rfl) (by kernel_rfl) (by kernel_rfl) ⟨stepLim_ok mixed tabOK (Δ := []) trivial hg57_3 (loopsAt_zip (cs := [.loop (loopOf Try.f57 7)]) (by kernel_rfl) (by kernel_rfl) (by kernel_rfl) ⟨stepLim_ok mixed tabOK (Δ := []) trivial hg57_7 (loopsAt_zip (Λ := []) (cs := []) (by kernel_rfl) (by kernel_rfl) (by kernel_rfl) trivial), trivial⟩), trivial⟩)
/-! 58 bowline/bigint.small -/
abbrev ps58 : List SV := [.d false tU]
abbrev rs58 : Shape := ⟨[(0, .d false tN)], []⟩
noncomputable def F58 (F96 : (SV.denL ps96) → Option (rs96).den) : (SV.denL ps58) → Option (rs58).den := runFn tb [(96, mkCall ps96 rs96 F96)] [] Try.f58 ps58 rs58
theorem call58 {F96 : (SV.denL ps96) → Option (rs96).den} (h96 : CallOK Try.prog 96 (mkCall ps96 rs96 F96)) : CallOK Try.prog 58 (mkCall ps58 rs58 (F58 F96)) :=
  runFn_ok mixed tabOK (Δ := [(96, mkCall ps96 rs96 F96)]) ⟨h96, trivial⟩ ⟨Try.func58, rfl, by kernel_rfl, by kernel_rfl, by kernel_rfl, by kernel_rfl⟩ rfl (loopsAt_zip (Λ := []) (cs := []) (by kernel_rfl) (by kernel_rfl) (by kernel_rfl) trivial)
/-! 71 (bowline/bigint.natural).limb -/
abbrev ps71 : List SV := [.d false tN, .d false tI]
abbrev rs71 : Shape := ⟨[(0, .d false tU)], []⟩
noncomputable def F71 : (SV.denL ps71) → Option (rs71).den := runFn tb [] [] Try.f71 ps71 rs71
theorem call71 : CallOK Try.prog 71 (mkCall ps71 rs71 (F71)) :=
  runFn_ok mixed tabOK (Δ := []) trivial ⟨Try.func71, rfl, by kernel_rfl, by kernel_rfl, by kernel_rfl, by kernel_rfl⟩ rfl (loopsAt_zip (Λ := []) (cs := []) (by kernel_rfl) (by kernel_rfl) (by kernel_rfl) trivial)
/-! 59 (bowline/bigint.natural).plus -/
abbrev ps59 : List SV := [.d false tN, .d false tN]
abbrev rs59 : Shape := ⟨[(0, .d false tN)], []⟩
abbrev sh59_4 : Shape := ⟨[(0, .d false tN), (1, .d false tN), (5, .rf 0), (6, .d false (.int .u64)), (17, .d false tI), (18, .d false tI)], [.row tU 76]⟩
abbrev w59_4 : List Way := [(some 0, ⟨[(5, .rf 0)], [.row tU 76]⟩)]
noncomputable def S59_4 (F71 : (SV.denL ps71) → Option (rs71).den) : sh59_4.den → Option (sh59_4.den ⊕ denX w59_4) := stepFn tb [(71, mkCall ps71 rs71 F71)] [] (upTo 42) Try.f59 4 sh59_4 w59_4
noncomputable def F59 (F96 : (SV.denL ps96) → Option (rs96).den) (g59_4 : sh59_4.den → Option (denX w59_4)) : (SV.denL ps59) → Option (rs59).den := runFn tb [(96, mkCall ps96 rs96 F96)] [(4, lp sh59_4 w59_4 g59_4)] Try.f59 ps59 rs59
theorem call59 {F71 : (SV.denL ps71) → Option (rs71).den} {F96 : (SV.denL ps96) → Option (rs96).den} {g59_4 : sh59_4.den → Option (denX w59_4)} (h71 : CallOK Try.prog 71 (mkCall ps71 rs71 F71)) (h96 : CallOK Try.prog 96 (mkCall ps96 rs96 F96)) (hg59_4 : Lim (S59_4 F71) g59_4) : CallOK Try.prog 59 (mkCall ps59 rs59 (F59 F96 g59_4)) :=
  runFn_ok mixed tabOK (Δ := [(96, mkCall ps96 rs96 F96)]) ⟨h96, trivial⟩ ⟨Try.func59, rfl, by kernel_rfl, by kernel_rfl, by kernel_rfl, by kernel_rfl⟩ rfl (loopsAt_zip (cs := [.loop (loopOf Try.f59 4)]) (by kernel_rfl) (by kernel_rfl) (by kernel_rfl) ⟨stepLim_ok mixed tabOK (Δ := [(71, mkCall ps71 rs71 F71)]) ⟨h71, trivial⟩ hg59_4 (loopsAt_zip (Λ := []) (cs := []) (by kernel_rfl) (by kernel_rfl) (by kernel_rfl) trivial), trivial⟩)
/-! 11 bowline/bigint.Parse -/
abbrev ps11 : List SV := [.d false .str, .d false tI]
abbrev rs11 : Shape := ⟨[(0, .d true tZ), (1, .d false tI)], []⟩
abbrev sh11_8 : Shape := ⟨[(0, .d false .str), (1, .d false tI), (4, .pt 0 0), (7, .d false tN), (31, .pt 1 0)], [.box [.d false .bool, .d false tN], .it]⟩
abbrev w11_8 : List Way := [(none, ⟨[(4, .pt 0 0), (5, .d false tI)], [.box [.d false .bool, .d false tN]]⟩), (some 0, ⟨[(0, .d false .str), (4, .pt 0 0), (7, .d false tN)], [.box [.d false .bool, .d false tN]]⟩)]
noncomputable def S11_8 (F57 : (SV.denL ps57) → Option (rs57).den) (F58 : (SV.denL ps58) → Option (rs58).den) (F59 : (SV.denL ps59) → Option (rs59).den) (F60 : (SV.denL ps60) → Option (rs60).den) : sh11_8.den → Option (sh11_8.den ⊕ denX w11_8) := stepFn tb [(57, mkCall ps57 rs57 F57), (58, mkCall ps58 rs58 F58), (59, mkCall ps59 rs59 F59), (60, mkCall ps60 rs60 F60)] [] (upTo 54) Try.f11 8 sh11_8 w11_8
noncomputable def F11 (F52 : (SV.denL ps52) → Option (rs52).den) (F53 : (SV.denL ps53) → Option (rs53).den) (F54 : (SV.denL ps54) → Option (rs54).den) (F55 : (SV.denL ps55) → Option (rs55).den) (F56 : (SV.denL ps56) → Option (rs56).den) (F61 : (SV.denL ps61) → Option (rs61).den) (g11_8 : sh11_8.den → Option (denX w11_8)) : (SV.denL ps11) → Option (rs11).den := runFn tb [(52, mkCall ps52 rs52 F52), (53, mkCall ps53 rs53 F53), (54, mkCall ps54 rs54 F54), (55, mkCall ps55 rs55 F55), (56, mkCall ps56 rs56 F56), (61, mkCall ps61 rs61 F61)] [(8, lp sh11_8 w11_8 g11_8)] Try.f11 ps11 rs11
theorem call11 {F52 : (SV.denL ps52) → Option (rs52).den} {F53 : (SV.denL ps53) → Option (rs53).den} {F54 : (SV.denL ps54) → Option (rs54).den} {F55 : (SV.denL ps55) → Option (rs55).den} {F56 : (SV.denL ps56) → Option (rs56).den} {F57 : (SV.denL ps57) → Option (rs57).den} {F58 : (SV.denL ps58) → Option (rs58).den} {F59 : (SV.denL ps59) → Option (rs59).den} {F60 : (SV.denL ps60) → Option (rs60).den} {F61 : (SV.denL ps61) → Option (rs61).den} {g11_8 : sh11_8.den → Option (denX w11_8)} (h52 : CallOK Try.prog 52 (mkCall ps52 rs52 F52)) (h53 : CallOK Try.prog 53 (mkCall ps53 rs53 F53)) (h54 : CallOK Try.prog 54 (mkCall ps54 rs54 F54)) (h55 : CallOK Try.prog 55 (mkCall ps55 rs55 F55)) (h56 : CallOK Try.prog 56 (mkCall ps56 rs56 F56)) (h57 : CallOK Try.prog 57 (mkCall ps57 rs57 F57)) (h58 : CallOK Try.prog 58 (mkCall ps58 rs58 F58)) (h59 : CallOK Try.prog 59 (mkCall ps59 rs59 F59)) (h60 : CallOK Try.prog 60 (mkCall ps60 rs60 F60)) (h61 : CallOK Try.prog 61 (mkCall ps61 rs61 F61)) (hg11_8 : Lim (S11_8 F57 F58 F59 F60) g11_8) : CallOK Try.prog 11 (mkCall ps11 rs11 (F11 F52 F53 F54 F55 F56 F61 g11_8)) :=
  runFn_ok mixed tabOK (Δ := [(52, mkCall ps52 rs52 F52), (53, mkCall ps53 rs53 F53), (54, mkCall ps54 rs54 F54), (55, mkCall ps55 rs55 F55), (56, mkCall ps56 rs56 F56), (61, mkCall ps61 rs61 F61)]) ⟨h52, h53, h54, h55, h56, h61, trivial⟩ ⟨Try.func11, rfl, by kernel_rfl, by kernel_rfl, by kernel_rfl, by kernel_rfl⟩ rfl (loopsAt_zip (cs := [.loop (loopOf Try.f11 8)]) (by kernel_rfl) (by kernel_rfl) (by kernel_rfl) ⟨stepLim_ok mixed tabOK (Δ := [(57, mkCall ps57 rs57 F57), (58, mkCall ps58 rs58 F58), (59, mkCall ps59 rs59 F59), (60, mkCall ps60 rs60 F60)]) ⟨h57, h58, h59, h60, trivial⟩ hg11_8 (loopsAt_zip (Λ := []) (cs := []) (by kernel_rfl) (by kernel_rfl) (by kernel_rfl) trivial), trivial⟩)
/-! 22 bowline/bigint.Check -/
abbrev ps22 : List SV := [.d true tZ]
abbrev rs22 : Shape := ⟨[(0, .d false tI)], []⟩
noncomputable def F22 (F52 : (SV.denL ps52) → Option (rs52).den) (F53 : (SV.denL ps53) → Option (rs53).den) : (SV.denL ps22) → Option (rs22).den := runFn tb [(52, mkCall ps52 rs52 F52), (53, mkCall ps53 rs53 F53)] [] Try.f22 ps22 rs22
theorem call22 {F52 : (SV.denL ps52) → Option (rs52).den} {F53 : (SV.denL ps53) → Option (rs53).den} (h52 : CallOK Try.prog 52 (mkCall ps52 rs52 F52)) (h53 : CallOK Try.prog 53 (mkCall ps53 rs53 F53)) : CallOK Try.prog 22 (mkCall ps22 rs22 (F22 F52 F53)) :=
  runFn_ok mixed tabOK (Δ := [(52, mkCall ps52 rs52 F52), (53, mkCall ps53 rs53 F53)]) ⟨h52, h53, trivial⟩ ⟨Try.func22, rfl, by kernel_rfl, by kernel_rfl, by kernel_rfl, by kernel_rfl⟩ rfl (loopsAt_zip (Λ := []) (cs := []) (by kernel_rfl) (by kernel_rfl) (by kernel_rfl) trivial)
/-! 63 bowline/bigint.of -/
abbrev ps63 : List SV := [.d true tZ]
abbrev rs63 : Shape := ⟨[(0, .d false tN)], []⟩
noncomputable def F63 : (SV.denL ps63) → Option (rs63).den := runFn tb [] [] Try.f63 ps63 rs63
theorem call63 : CallOK Try.prog 63 (mkCall ps63 rs63 (F63)) :=
  runFn_ok mixed tabOK (Δ := []) trivial ⟨Try.func63, rfl, by kernel_rfl, by kernel_rfl, by kernel_rfl, by kernel_rfl⟩ rfl (loopsAt_zip (Λ := []) (cs := []) (by kernel_rfl) (by kernel_rfl) (by kernel_rfl) trivial)
/-! 64 (bowline/bigint.natural).digits -/
abbrev ps64 : List SV := [.d false tN, .d false tU]
abbrev rs64 : Shape := ⟨[(0, .fn 98 [.pt 0 0, .pt 1 0])], [.box [.d false tN], .box [.d false tU]]⟩
noncomputable def F64 : (SV.denL ps64) → Option (rs64).den := runFn tb [] [] Try.f64 ps64 rs64
theorem call64 : CallOK Try.prog 64 (mkCall ps64 rs64 (F64)) :=
  runFn_ok mixed tabOK (Δ := []) trivial ⟨Try.func64, rfl, by kernel_rfl, by kernel_rfl, by kernel_rfl, by kernel_rfl⟩ rfl (loopsAt_zip (Λ := []) (cs := []) (by kernel_rfl) (by kernel_rfl) (by kernel_rfl) trivial)
/-! 65 slices.Reverse[[]byte,byte] -/
abbrev psh65 : Shape := ⟨[(0, .rf 0)], [.row (.int .u8) 5]⟩
abbrev m65 : List Nat := [0]
abbrev rs65 : Shape := ⟨[(0, .rf 0)], [.row (.int .u8) 5]⟩
abbrev sh65_1 : Shape := ⟨[(0, .rf 0), (2, .d false tI), (3, .d false tI)], [.row (.int .u8) 5]⟩
abbrev w65_1 : List Way := [(some 0, ⟨[(0, .rf 0)], [.row (.int .u8) 5]⟩)]
noncomputable def S65_1 : sh65_1.den → Option (sh65_1.den ⊕ denX w65_1) := stepFn tb [] [] (roundOk (upTo 28) (rangeN 0 1)) Try.f65 1 sh65_1 w65_1
noncomputable def F65 (g65_1 : sh65_1.den → Option (denX w65_1)) : (psh65.den) → Option (rs65).den := runFnB tb [] [(1, lp sh65_1 w65_1 g65_1)] Try.f65 psh65 rs65 1
theorem call65 {g65_1 : sh65_1.den → Option (denX w65_1)} (hg65_1 : Lim (S65_1) g65_1) : CallOK Try.prog 65 (mkCallB psh65 rs65 m65 1 (F65 g65_1)) :=
  runFnB_ok mixed tabOK (Δ := []) trivial ⟨Try.func65, rfl, by kernel_rfl, by kernel_rfl, by kernel_rfl, by kernel_rfl, by kernel_rfl, by kernel_rfl, by kernel_rfl, by kernel_rfl, by kernel_rfl⟩ rfl (loopsAt_zip (cs := [.loop (loopOf Try.f65 1)]) (by kernel_rfl) (by kernel_rfl) (by kernel_rfl) ⟨stepLim_ok mixed tabOK (Δ := []) trivial hg65_1 (loopsAt_zip (Λ := []) (cs := []) (by kernel_rfl) (by kernel_rfl) (by kernel_rfl) trivial), trivial⟩)
/-! 108 slices.Backward[bowline/bigint.natural,uint32] -/
abbrev ps108 : List SV := [.d false tN]
abbrev rs108 : Shape := ⟨[(0, .fn 115 [.pt 0 0])], [.box [.d false tN]]⟩
noncomputable def F108 : (SV.denL ps108) → Option (rs108).den := runFn tb [] [] Try.f108 ps108 rs108
theorem call108 : CallOK Try.prog 108 (mkCall ps108 rs108 (F108)) :=
  runFn_ok mixed tabOK (Δ := []) trivial ⟨Try.func108, rfl, by kernel_rfl, by kernel_rfl, by kernel_rfl, by kernel_rfl⟩ rfl (loopsAt_zip (Λ := []) (cs := []) (by kernel_rfl) (by kernel_rfl) (by kernel_rfl) trivial)
/-! 99 (bowline/bigint.natural).by -/
abbrev ps99 : List SV := [.d false tN, .d false tU]
abbrev rs99 : Shape := ⟨[(0, .d false tN), (1, .d false tU)], []⟩
abbrev sh99_4 : Shape := ⟨[(3, .pt 0 0), (6, .pt 1 0), (7, .pt 2 0)], [.box [.d false tU], .box [.rf 3], .box [.d false (.int .u64)], .row tU 76]⟩
abbrev w99_4 : List Way := []
noncomputable def S99_4 : El115 → sh99_4.den → Option (sh99_4.den ⊕ denX w99_4) := roundFn tb [] [] (upTo 39) Try.f99 4 avs115 [(8, 16), (9, 17)] sh99_4 w99_4
noncomputable def F99 (F96 : (SV.denL ps96) → Option (rs96).den) (F108 : (SV.denL ps108) → Option (rs108).den) (D115 : Dt115) (g99_4 : List El115 → sh99_4.den → Option (sh99_4.den ⊕ denX w99_4)) : (SV.denL ps99) → Option (rs99).den := runFn tb [(96, mkCall ps96 rs96 F96), (108, mkCall ps108 rs108 F108)] [(4, rangeO (rgG Try.f99 4) 115 (cap115 D115) sh99_4 w99_4 g99_4)] Try.f99 ps99 rs99
theorem call99 {F108 : (SV.denL ps108) → Option (rs108).den} {F96 : (SV.denL ps96) → Option (rs96).den} {g99_4 : List El115 → sh99_4.den → Option (sh99_4.den ⊕ denX w99_4)} {D115 : Dt115} (it115 : IterOK Try.prog 115 encs115 (cap115 D115)) (h108 : CallOK Try.prog 108 (mkCall ps108 rs108 F108)) (h96 : CallOK Try.prog 96 (mkCall ps96 rs96 F96)) (hg99_4 : foldR (S99_4) = g99_4) : CallOK Try.prog 99 (mkCall ps99 rs99 (F99 F96 F108 D115 g99_4)) :=
  runFn_ok mixed tabOK (Δ := [(96, mkCall ps96 rs96 F96), (108, mkCall ps108 rs108 F108)]) ⟨h96, h108, trivial⟩ ⟨Try.func99, rfl, by kernel_rfl, by kernel_rfl, by kernel_rfl, by kernel_rfl⟩ rfl (loopsAt_zip (cs := [.rangeFunc (rgG Try.f99 4) (rgP Try.f99 4) (rgA Try.f99 4) (rgB Try.f99 4)]) (by kernel_rfl) (by kernel_rfl) (by kernel_rfl) ⟨by rw [← hg99_4]; exact roundFn_ok mixed tabOK (Δ := []) trivial it115 ⟨by kernel_rfl, rel115, fun _ => rfl, by kernel_rfl, by kernel_rfl, by kernel_rfl, by kernel_rfl⟩ (loopsAt_zip (Λ := []) (cs := []) (by kernel_rfl) (by kernel_rfl) (by kernel_rfl) trivial), trivial⟩)
noncomputable def B98 (F99 : (SV.denL ps99) → Option (rs99).den) : psh98.den → Option psh98.den := startY tb (lookL [(99, mkCall ps99 rs99 F99)]) (roundOk (upTo 18) (rangeN 0 3)) (lookL []) none psh98 psh98
noncomputable def Y98 (F99 : (SV.denL ps99) → Option (rs99).den) : psh98.den → Option (RY psh98.den El98) := stepY tb (lookL [(99, mkCall ps99 rs99 F99)]) (roundOk (upTo 18) (rangeN 0 3)) (lookL []) 3 2 psh98 psh98 elOf98 0 (loopOf Try.f98 0)
theorem it98 {F99 : (SV.denL ps99) → Option (rs99).den} (h99 : CallOK Try.prog 99 (mkCall ps99 rs99 F99)) {D : Dt98} (hD : Coll (B98 F99) (Y98 F99) D) : IterOK Try.prog 98 encs98 (cap98 D) :=
  iterOK_at mixed tabOK (Δ := [(99, mkCall ps99 rs99 F99)]) ⟨h99, trivial⟩ ⟨Try.func98, by kernel_rfl, by kernel_rfl, by kernel_rfl, by kernel_rfl, by kernel_rfl, by kernel_rfl, by kernel_rfl, by kernel_rfl, by kernel_rfl, by kernel_rfl, by kernel_rfl, by kernel_rfl, by kernel_rfl⟩ el98
    (loopsAt_zip (Λ := []) (cs := []) (by kernel_rfl) (by kernel_rfl) (by kernel_rfl) trivial) (fun p hp => by cases hp) hD
/-! 16 bowline/bigint.Text -/
abbrev ps16 : List SV := [.d true tZ, .d false tI]
abbrev rs16 : Shape := ⟨[(0, .d false .str), (1, .d false tI)], []⟩
abbrev sh16_8 : Shape := ⟨[(2, .pt 0 0), (7, .pt 1 0)], [.box [.d false .bool, .d false tN], .box [.rf 2], .row (.int .u8) 5]⟩
abbrev w16_8 : List Way := []
noncomputable def S16_8 : El98 → sh16_8.den → Option (sh16_8.den ⊕ denX w16_8) := roundFn tb [] [] (upTo 44) Try.f16 8 avs98 [(8, 29)] sh16_8 w16_8
noncomputable def F16 (F22 : (SV.denL ps22) → Option (rs22).den) (F52 : (SV.denL ps52) → Option (rs52).den) (F53 : (SV.denL ps53) → Option (rs53).den) (F54 : (SV.denL ps54) → Option (rs54).den) (F63 : (SV.denL ps63) → Option (rs63).den) (F64 : (SV.denL ps64) → Option (rs64).den) (F65 : (psh65.den) → Option (rs65).den) (D98 : Dt98) (g16_8 : List El98 → sh16_8.den → Option (sh16_8.den ⊕ denX w16_8)) : (SV.denL ps16) → Option (rs16).den := runFn tb [(22, mkCall ps22 rs22 F22), (52, mkCall ps52 rs52 F52), (53, mkCall ps53 rs53 F53), (54, mkCall ps54 rs54 F54), (63, mkCall ps63 rs63 F63), (64, mkCall ps64 rs64 F64), (65, mkCallB psh65 rs65 m65 1 F65)] [(8, rangeO (rgG Try.f16 8) 98 (cap98 D98) sh16_8 w16_8 g16_8)] Try.f16 ps16 rs16
theorem call16 {F22 : (SV.denL ps22) → Option (rs22).den} {F52 : (SV.denL ps52) → Option (rs52).den} {F53 : (SV.denL ps53) → Option (rs53).den} {F54 : (SV.denL ps54) → Option (rs54).den} {F63 : (SV.denL ps63) → Option (rs63).den} {F64 : (SV.denL ps64) → Option (rs64).den} {F65 : (psh65.den) → Option (rs65).den} {g16_8 : List El98 → sh16_8.den → Option (sh16_8.den ⊕ denX w16_8)} {D98 : Dt98} (it98 : IterOK Try.prog 98 encs98 (cap98 D98)) (h22 : CallOK Try.prog 22 (mkCall ps22 rs22 F22)) (h52 : CallOK Try.prog 52 (mkCall ps52 rs52 F52)) (h53 : CallOK Try.prog 53 (mkCall ps53 rs53 F53)) (h54 : CallOK Try.prog 54 (mkCall ps54 rs54 F54)) (h63 : CallOK Try.prog 63 (mkCall ps63 rs63 F63)) (h64 : CallOK Try.prog 64 (mkCall ps64 rs64 F64)) (h65 : CallOK Try.prog 65 (mkCallB psh65 rs65 m65 1 F65)) (hg16_8 : foldR (S16_8) = g16_8) : CallOK Try.prog 16 (mkCall ps16 rs16 (F16 F22 F52 F53 F54 F63 F64 F65 D98 g16_8)) :=
  runFn_ok mixed tabOK (Δ := [(22, mkCall ps22 rs22 F22), (52, mkCall ps52 rs52 F52), (53, mkCall ps53 rs53 F53), (54, mkCall ps54 rs54 F54), (63, mkCall ps63 rs63 F63), (64, mkCall ps64 rs64 F64), (65, mkCallB psh65 rs65 m65 1 F65)]) ⟨h22, h52, h53, h54, h63, h64, h65, trivial⟩ ⟨Try.func16, rfl, by kernel_rfl, by kernel_rfl, by kernel_rfl, by kernel_rfl⟩ rfl (loopsAt_zip (cs := [.rangeFunc (rgG Try.f16 8) (rgP Try.f16 8) (rgA Try.f16 8) (rgB Try.f16 8)]) (by kernel_rfl) (by kernel_rfl) (by kernel_rfl) ⟨by rw [← hg16_8]; exact roundFn_ok mixed tabOK (Δ := []) trivial it98 ⟨by kernel_rfl, rel98, fun _ => rfl, by kernel_rfl, by kernel_rfl, by kernel_rfl, by kernel_rfl⟩ (loopsAt_zip (Λ := []) (cs := []) (by kernel_rfl) (by kernel_rfl) (by kernel_rfl) trivial), trivial⟩)
/-! 113 math/bits.Len32 -/
abbrev ps113 : List SV := [.d false tU]
abbrev rs113 : Shape := ⟨[(0, .d false tI)], []⟩
noncomputable def F113 : (SV.denL ps113) → Option (rs113).den := runFn tb [] [] Try.f113 ps113 rs113
theorem call113 : CallOK Try.prog 113 (mkCall ps113 rs113 (F113)) :=
  runFn_ok mixed tabOK (Δ := []) trivial ⟨Try.func113, rfl, by kernel_rfl, by kernel_rfl, by kernel_rfl, by kernel_rfl⟩ rfl (loopsAt_zip (Λ := []) (cs := []) (by kernel_rfl) (by kernel_rfl) (by kernel_rfl) trivial)
/-! 100 math/bits.LeadingZeros32 -/
abbrev ps100 : List SV := [.d false tU]
abbrev rs100 : Shape := ⟨[(0, .d false tI)], []⟩
noncomputable def F100 (F113 : (SV.denL ps113) → Option (rs113).den) : (SV.denL ps100) → Option (rs100).den := runFn tb [(113, mkCall ps113 rs113 F113)] [] Try.f100 ps100 rs100
theorem call100 {F113 : (SV.denL ps113) → Option (rs113).den} (h113 : CallOK Try.prog 113 (mkCall ps113 rs113 F113)) : CallOK Try.prog 100 (mkCall ps100 rs100 (F100 F113)) :=
  runFn_ok mixed tabOK (Δ := [(113, mkCall ps113 rs113 F113)]) ⟨h113, trivial⟩ ⟨Try.func100, rfl, by kernel_rfl, by kernel_rfl, by kernel_rfl, by kernel_rfl⟩ rfl (loopsAt_zip (Λ := []) (cs := []) (by kernel_rfl) (by kernel_rfl) (by kernel_rfl) trivial)
/-! 69 (bowline/bigint.natural).size -/
abbrev ps69 : List SV := [.d false tN]
abbrev rs69 : Shape := ⟨[(0, .d false tI)], []⟩
noncomputable def F69 (F100 : (SV.denL ps100) → Option (rs100).den) : (SV.denL ps69) → Option (rs69).den := runFn tb [(100, mkCall ps100 rs100 F100)] [] Try.f69 ps69 rs69
theorem call69 {F100 : (SV.denL ps100) → Option (rs100).den} (h100 : CallOK Try.prog 100 (mkCall ps100 rs100 F100)) : CallOK Try.prog 69 (mkCall ps69 rs69 (F69 F100)) :=
  runFn_ok mixed tabOK (Δ := [(100, mkCall ps100 rs100 F100)]) ⟨h100, trivial⟩ ⟨Try.func69, rfl, by kernel_rfl, by kernel_rfl, by kernel_rfl, by kernel_rfl⟩ rfl (loopsAt_zip (Λ := []) (cs := []) (by kernel_rfl) (by kernel_rfl) (by kernel_rfl) trivial)
/-! 68 math/bits.OnesCount32 -/
abbrev ps68 : List SV := [.d false tU]
abbrev rs68 : Shape := ⟨[(0, .d false tI)], []⟩
noncomputable def F68 : (SV.denL ps68) → Option (rs68).den := runFn tb [] [] Try.f68 ps68 rs68
theorem call68 : CallOK Try.prog 68 (mkCall ps68 rs68 (F68)) :=
  runFn_ok mixed tabOK (Δ := []) trivial ⟨Try.func68, rfl, by kernel_rfl, by kernel_rfl, by kernel_rfl, by kernel_rfl⟩ rfl (loopsAt_zip (Λ := []) (cs := []) (by kernel_rfl) (by kernel_rfl) (by kernel_rfl) trivial)
/-! 19 bowline/bigint.Bits -/
abbrev ps19 : List SV := [.d true tZ]
abbrev rs19 : Shape := ⟨[(0, .d false tI), (1, .d false tI), (2, .d false tI)], []⟩
abbrev sh19_6 : Shape := ⟨[(1, .pt 0 0), (6, .d false tI), (16, .d false tN), (17, .d false tI), (18, .d false tI)], [.box [.d false .bool, .d false tN]]⟩
abbrev w19_6 : List Way := [(some 0, ⟨[(1, .pt 0 0), (6, .d false tI)], [.box [.d false .bool, .d false tN]]⟩)]
noncomputable def S19_6 (F68 : (SV.denL ps68) → Option (rs68).den) : sh19_6.den → Option (sh19_6.den ⊕ denX w19_6) := stepFn tb [(68, mkCall ps68 rs68 F68)] [] (upTo 33) Try.f19 6 sh19_6 w19_6
noncomputable def F19 (F22 : (SV.denL ps22) → Option (rs22).den) (F63 : (SV.denL ps63) → Option (rs63).den) (F69 : (SV.denL ps69) → Option (rs69).den) (g19_6 : sh19_6.den → Option (denX w19_6)) : (SV.denL ps19) → Option (rs19).den := runFn tb [(22, mkCall ps22 rs22 F22), (63, mkCall ps63 rs63 F63), (69, mkCall ps69 rs69 F69)] [(6, lp sh19_6 w19_6 g19_6)] Try.f19 ps19 rs19
theorem call19 {F22 : (SV.denL ps22) → Option (rs22).den} {F63 : (SV.denL ps63) → Option (rs63).den} {F68 : (SV.denL ps68) → Option (rs68).den} {F69 : (SV.denL ps69) → Option (rs69).den} {g19_6 : sh19_6.den → Option (denX w19_6)} (h22 : CallOK Try.prog 22 (mkCall ps22 rs22 F22)) (h63 : CallOK Try.prog 63 (mkCall ps63 rs63 F63)) (h68 : CallOK Try.prog 68 (mkCall ps68 rs68 F68)) (h69 : CallOK Try.prog 69 (mkCall ps69 rs69 F69)) (hg19_6 : Lim (S19_6 F68) g19_6) : CallOK Try.prog 19 (mkCall ps19 rs19 (F19 F22 F63 F69 g19_6)) :=
  runFn_ok mixed tabOK (Δ := [(22, mkCall ps22 rs22 F22), (63, mkCall ps63 rs63 F63), (69, mkCall ps69 rs69 F69)]) ⟨h22, h63, h69, trivial⟩ ⟨Try.func19, rfl, by kernel_rfl, by kernel_rfl, by kernel_rfl, by kernel_rfl⟩ rfl (loopsAt_zip (cs := [.loop (loopOf Try.f19 6)]) (by kernel_rfl) (by kernel_rfl) (by kernel_rfl) ⟨stepLim_ok mixed tabOK (Δ := [(68, mkCall ps68 rs68 F68)]) ⟨h68, trivial⟩ hg19_6 (loopsAt_zip (Λ := []) (cs := []) (by kernel_rfl) (by kernel_rfl) (by kernel_rfl) trivial), trivial⟩)
/-! 70 bowline/bigint.widths -/
abbrev ps70 : List SV := []
abbrev rs70 : Shape := ⟨[(0, .d true (.pr tI (.pr tI (.fk 101))))], []⟩
noncomputable def F70 : (SV.denL ps70) → Option (rs70).den := runFn tb [] [] Try.f70 ps70 rs70
theorem call70 : CallOK Try.prog 70 (mkCall ps70 rs70 (F70)) :=
  runFn_ok mixed tabOK (Δ := []) trivial ⟨Try.func70, rfl, by kernel_rfl, by kernel_rfl, by kernel_rfl, by kernel_rfl⟩ rfl (loopsAt_zip (Λ := []) (cs := []) (by kernel_rfl) (by kernel_rfl) (by kernel_rfl) trivial)
/-! 101 (bowline/bigint.limits).within -/
abbrev ps101 : List SV := [.d true (.pr tI (.pr tI (.fk 101))), .d false tI]
abbrev rs101 : Shape := ⟨[(0, .d false .bool)], []⟩
noncomputable def F101 : (SV.denL ps101) → Option (rs101).den := runFn tb [] [] Try.f101 ps101 rs101
theorem call101 : CallOK Try.prog 101 (mkCall ps101 rs101 (F101)) :=
  runFn_ok mixed tabOK (Δ := []) trivial ⟨Try.func101, rfl, by kernel_rfl, by kernel_rfl, by kernel_rfl, by kernel_rfl⟩ rfl (loopsAt_zip (Λ := []) (cs := []) (by kernel_rfl) (by kernel_rfl) (by kernel_rfl) trivial)
/-! 21 bowline/bigint.Wrap -/
abbrev ps21 : List SV := [.d true tZ, .d false tI]
abbrev rs21 : Shape := ⟨[(0, .d false (.int .u64)), (1, .d false tI)], []⟩
noncomputable def F21 (F22 : (SV.denL ps22) → Option (rs22).den) (F52 : (SV.denL ps52) → Option (rs52).den) (F53 : (SV.denL ps53) → Option (rs53).den) (F63 : (SV.denL ps63) → Option (rs63).den) (F70 : (SV.denL ps70) → Option (rs70).den) (F71 : (SV.denL ps71) → Option (rs71).den) (F101 : (SV.denL ps101) → Option (rs101).den) : (SV.denL ps21) → Option (rs21).den := runFn tb [(22, mkCall ps22 rs22 F22), (52, mkCall ps52 rs52 F52), (53, mkCall ps53 rs53 F53), (63, mkCall ps63 rs63 F63), (70, mkCall ps70 rs70 F70), (71, mkCall ps71 rs71 F71), (101, mkCall ps101 rs101 F101)] [] Try.f21 ps21 rs21
theorem call21 {F101 : (SV.denL ps101) → Option (rs101).den} {F22 : (SV.denL ps22) → Option (rs22).den} {F52 : (SV.denL ps52) → Option (rs52).den} {F53 : (SV.denL ps53) → Option (rs53).den} {F63 : (SV.denL ps63) → Option (rs63).den} {F70 : (SV.denL ps70) → Option (rs70).den} {F71 : (SV.denL ps71) → Option (rs71).den} (h101 : CallOK Try.prog 101 (mkCall ps101 rs101 F101)) (h22 : CallOK Try.prog 22 (mkCall ps22 rs22 F22)) (h52 : CallOK Try.prog 52 (mkCall ps52 rs52 F52)) (h53 : CallOK Try.prog 53 (mkCall ps53 rs53 F53)) (h63 : CallOK Try.prog 63 (mkCall ps63 rs63 F63)) (h70 : CallOK Try.prog 70 (mkCall ps70 rs70 F70)) (h71 : CallOK Try.prog 71 (mkCall ps71 rs71 F71)) : CallOK Try.prog 21 (mkCall ps21 rs21 (F21 F22 F52 F53 F63 F70 F71 F101)) :=
  runFn_ok mixed tabOK (Δ := [(22, mkCall ps22 rs22 F22), (52, mkCall ps52 rs52 F52), (53, mkCall ps53 rs53 F53), (63, mkCall ps63 rs63 F63), (70, mkCall ps70 rs70 F70), (71, mkCall ps71 rs71 F71), (101, mkCall ps101 rs101 F101)]) ⟨h22, h52, h53, h63, h70, h71, h101, trivial⟩ ⟨Try.func21, rfl, by kernel_rfl, by kernel_rfl, by kernel_rfl, by kernel_rfl⟩ rfl (loopsAt_zip (Λ := []) (cs := []) (by kernel_rfl) (by kernel_rfl) (by kernel_rfl) trivial)
/-! 75 bowline/bigint.result -/
abbrev ps75 : List SV := [.d true tZ]
abbrev rs75 : Shape := ⟨[(0, .d true tZ), (1, .d false tI)], []⟩
noncomputable def F75 : (SV.denL ps75) → Option (rs75).den := runFn tb [] [] Try.f75 ps75 rs75
theorem call75 : CallOK Try.prog 75 (mkCall ps75 rs75 (F75)) :=
  runFn_ok mixed tabOK (Δ := []) trivial ⟨Try.func75, rfl, by kernel_rfl, by kernel_rfl, by kernel_rfl, by kernel_rfl⟩ rfl (loopsAt_zip (Λ := []) (cs := []) (by kernel_rfl) (by kernel_rfl) (by kernel_rfl) trivial)
/-! 76 (bowline/bigint.natural).up -/
abbrev ps76 : List SV := [.d false tN, .d false tI]
abbrev rs76 : Shape := ⟨[(0, .d false tN)], []⟩
abbrev sh76_6 : Shape := ⟨[(1, .d false tI), (5, .rf 0), (6, .d false tI), (7, .d false tI)], [.row tU 76]⟩
abbrev w76_6 : List Way := [(some 0, ⟨[(5, .rf 0)], [.row tU 76]⟩)]
noncomputable def S76_6 : sh76_6.den → Option (sh76_6.den ⊕ denX w76_6) := stepFn tb [] [] (upTo 60) Try.f76 6 sh76_6 w76_6
noncomputable def F76 (F96 : (SV.denL ps96) → Option (rs96).den) (g76_6 : sh76_6.den → Option (denX w76_6)) : (SV.denL ps76) → Option (rs76).den := runFn tb [(96, mkCall ps96 rs96 F96)] [(6, lp sh76_6 w76_6 g76_6)] Try.f76 ps76 rs76
theorem call76 {F96 : (SV.denL ps96) → Option (rs96).den} {g76_6 : sh76_6.den → Option (denX w76_6)} (h96 : CallOK Try.prog 96 (mkCall ps96 rs96 F96)) (hg76_6 : Lim (S76_6) g76_6) : CallOK Try.prog 76 (mkCall ps76 rs76 (F76 F96 g76_6)) :=
  runFn_ok mixed tabOK (Δ := [(96, mkCall ps96 rs96 F96)]) ⟨h96, trivial⟩ ⟨Try.func76, rfl, by kernel_rfl, by kernel_rfl, by kernel_rfl, by kernel_rfl⟩ rfl (loopsAt_zip (cs := [.loop (loopOf Try.f76 6)]) (by kernel_rfl) (by kernel_rfl) (by kernel_rfl) ⟨stepLim_ok mixed tabOK (Δ := []) trivial hg76_6 (loopsAt_zip (Λ := []) (cs := []) (by kernel_rfl) (by kernel_rfl) (by kernel_rfl) trivial), trivial⟩)
/-! 104 (bowline/bigint.natural).down$1 -/
abbrev ps104 : List SV := [.d false tU]
abbrev rs104 : Shape := ⟨[(0, .d false .bool)], []⟩
noncomputable def F104 : (SV.denL ps104) → Option (rs104).den := runFn tb [] [] Try.f104 ps104 rs104
theorem call104 : CallOK Try.prog 104 (mkCall ps104 rs104 (F104)) :=
  runFn_ok mixed tabOK (Δ := []) trivial ⟨Try.func104, rfl, by kernel_rfl, by kernel_rfl, by kernel_rfl, by kernel_rfl⟩ rfl (loopsAt_zip (Λ := []) (cs := []) (by kernel_rfl) (by kernel_rfl) (by kernel_rfl) trivial)
/-! 114 slices.IndexFunc[bowline/bigint.natural,uint32] -/
abbrev ps114 : List SV := [.d false tN, .d false (.fk 104)]
abbrev rs114 : Shape := ⟨[(0, .d false tI)], []⟩
abbrev sh114_2 : Shape := ⟨[(0, .d false tN), (1, .fn 104 []), (7, .d false tI), (8, .d false tI)], []⟩
abbrev w114_2 : List Way := [(none, ⟨[(4, .d false tI)], []⟩), (some 0, ⟨[], []⟩)]
noncomputable def S114_2 (F104 : (SV.denL ps104) → Option (rs104).den) : sh114_2.den → Option (sh114_2.den ⊕ denX w114_2) := stepFn tb [(104, mkCall ps104 rs104 F104)] [] (upTo 19) Try.f114 2 sh114_2 w114_2
noncomputable def F114 (g114_2 : sh114_2.den → Option (denX w114_2)) : (SV.denL ps114) → Option (rs114).den := runFn tb [] [(2, lp sh114_2 w114_2 g114_2)] Try.f114 ps114 rs114
theorem call114 {F104 : (SV.denL ps104) → Option (rs104).den} {g114_2 : sh114_2.den → Option (denX w114_2)} (h104 : CallOK Try.prog 104 (mkCall ps104 rs104 F104)) (hg114_2 : Lim (S114_2 F104) g114_2) : CallOK Try.prog 114 (mkCall ps114 rs114 (F114 g114_2)) :=
  runFn_ok mixed tabOK (Δ := []) trivial ⟨Try.func114, rfl, by kernel_rfl, by kernel_rfl, by kernel_rfl, by kernel_rfl⟩ rfl (loopsAt_zip (cs := [.loop (loopOf Try.f114 2)]) (by kernel_rfl) (by kernel_rfl) (by kernel_rfl) ⟨stepLim_ok mixed tabOK (Δ := [(104, mkCall ps104 rs104 F104)]) ⟨h104, trivial⟩ hg114_2 (loopsAt_zip (Λ := []) (cs := []) (by kernel_rfl) (by kernel_rfl) (by kernel_rfl) trivial), trivial⟩)
/-! 103 slices.ContainsFunc[bowline/bigint.natural,uint32] -/
abbrev ps103 : List SV := [.d false tN, .d false (.fk 104)]
abbrev rs103 : Shape := ⟨[(0, .d false .bool)], []⟩
noncomputable def F103 (F114 : (SV.denL ps114) → Option (rs114).den) : (SV.denL ps103) → Option (rs103).den := runFn tb [(114, mkCall ps114 rs114 F114)] [] Try.f103 ps103 rs103
theorem call103 {F114 : (SV.denL ps114) → Option (rs114).den} (h114 : CallOK Try.prog 114 (mkCall ps114 rs114 F114)) : CallOK Try.prog 103 (mkCall ps103 rs103 (F103 F114)) :=
  runFn_ok mixed tabOK (Δ := [(114, mkCall ps114 rs114 F114)]) ⟨h114, trivial⟩ ⟨Try.func103, rfl, by kernel_rfl, by kernel_rfl, by kernel_rfl, by kernel_rfl⟩ rfl (loopsAt_zip (Λ := []) (cs := []) (by kernel_rfl) (by kernel_rfl) (by kernel_rfl) trivial)
/-! 77 (bowline/bigint.natural).down -/
abbrev ps77 : List SV := [.d false tN, .d false tI]
abbrev rs77 : Shape := ⟨[(0, .d false tN), (1, .d false .bool)], []⟩
abbrev sh77_6 : Shape := ⟨[(0, .d false tN), (1, .d false tI), (6, .d false .bool), (7, .rf 0), (47, .d false tI), (48, .d false tI)], [.row tU 76]⟩
abbrev w77_6 : List Way := [(some 0, ⟨[(6, .d false .bool), (7, .rf 0)], [.row tU 76]⟩)]
noncomputable def S77_6 (F71 : (SV.denL ps71) → Option (rs71).den) : sh77_6.den → Option (sh77_6.den ⊕ denX w77_6) := stepFn tb [(71, mkCall ps71 rs71 F71)] [] (upTo 80) Try.f77 6 sh77_6 w77_6
noncomputable def F77 (F96 : (SV.denL ps96) → Option (rs96).den) (F103 : (SV.denL ps103) → Option (rs103).den) (g77_6 : sh77_6.den → Option (denX w77_6)) : (SV.denL ps77) → Option (rs77).den := runFn tb [(96, mkCall ps96 rs96 F96), (103, mkCall ps103 rs103 F103)] [(6, lp sh77_6 w77_6 g77_6)] Try.f77 ps77 rs77
theorem call77 {F103 : (SV.denL ps103) → Option (rs103).den} {F71 : (SV.denL ps71) → Option (rs71).den} {F96 : (SV.denL ps96) → Option (rs96).den} {g77_6 : sh77_6.den → Option (denX w77_6)} (h103 : CallOK Try.prog 103 (mkCall ps103 rs103 F103)) (h71 : CallOK Try.prog 71 (mkCall ps71 rs71 F71)) (h96 : CallOK Try.prog 96 (mkCall ps96 rs96 F96)) (hg77_6 : Lim (S77_6 F71) g77_6) : CallOK Try.prog 77 (mkCall ps77 rs77 (F77 F96 F103 g77_6)) :=
  runFn_ok mixed tabOK (Δ := [(96, mkCall ps96 rs96 F96), (103, mkCall ps103 rs103 F103)]) ⟨h96, h103, trivial⟩ ⟨Try.func77, rfl, by kernel_rfl, by kernel_rfl, by kernel_rfl, by kernel_rfl⟩ rfl (loopsAt_zip (cs := [.loop (loopOf Try.f77 6)]) (by kernel_rfl) (by kernel_rfl) (by kernel_rfl) ⟨stepLim_ok mixed tabOK (Δ := [(71, mkCall ps71 rs71 F71)]) ⟨h71, trivial⟩ hg77_6 (loopsAt_zip (Λ := []) (cs := []) (by kernel_rfl) (by kernel_rfl) (by kernel_rfl) trivial), trivial⟩)
/-! 25 bowline/bigint.Shift -/
abbrev ps25 : List SV := [.d true tZ, .d false tI]
abbrev rs25 : Shape := ⟨[(0, .d true tZ), (1, .d false tI)], []⟩
noncomputable def F25 (F22 : (SV.denL ps22) → Option (rs22).den) (F52 : (SV.denL ps52) → Option (rs52).den) (F53 : (SV.denL ps53) → Option (rs53).den) (F58 : (SV.denL ps58) → Option (rs58).den) (F59 : (SV.denL ps59) → Option (rs59).den) (F61 : (SV.denL ps61) → Option (rs61).den) (F63 : (SV.denL ps63) → Option (rs63).den) (F75 : (SV.denL ps75) → Option (rs75).den) (F76 : (SV.denL ps76) → Option (rs76).den) (F77 : (SV.denL ps77) → Option (rs77).den) : (SV.denL ps25) → Option (rs25).den := runFn tb [(22, mkCall ps22 rs22 F22), (52, mkCall ps52 rs52 F52), (53, mkCall ps53 rs53 F53), (58, mkCall ps58 rs58 F58), (59, mkCall ps59 rs59 F59), (61, mkCall ps61 rs61 F61), (63, mkCall ps63 rs63 F63), (75, mkCall ps75 rs75 F75), (76, mkCall ps76 rs76 F76), (77, mkCall ps77 rs77 F77)] [] Try.f25 ps25 rs25
theorem call25 {F22 : (SV.denL ps22) → Option (rs22).den} {F52 : (SV.denL ps52) → Option (rs52).den} {F53 : (SV.denL ps53) → Option (rs53).den} {F58 : (SV.denL ps58) → Option (rs58).den} {F59 : (SV.denL ps59) → Option (rs59).den} {F61 : (SV.denL ps61) → Option (rs61).den} {F63 : (SV.denL ps63) → Option (rs63).den} {F75 : (SV.denL ps75) → Option (rs75).den} {F76 : (SV.denL ps76) → Option (rs76).den} {F77 : (SV.denL ps77) → Option (rs77).den} (h22 : CallOK Try.prog 22 (mkCall ps22 rs22 F22)) (h52 : CallOK Try.prog 52 (mkCall ps52 rs52 F52)) (h53 : CallOK Try.prog 53 (mkCall ps53 rs53 F53)) (h58 : CallOK Try.prog 58 (mkCall ps58 rs58 F58)) (h59 : CallOK Try.prog 59 (mkCall ps59 rs59 F59)) (h61 : CallOK Try.prog 61 (mkCall ps61 rs61 F61)) (h63 : CallOK Try.prog 63 (mkCall ps63 rs63 F63)) (h75 : CallOK Try.prog 75 (mkCall ps75 rs75 F75)) (h76 : CallOK Try.prog 76 (mkCall ps76 rs76 F76)) (h77 : CallOK Try.prog 77 (mkCall ps77 rs77 F77)) : CallOK Try.prog 25 (mkCall ps25 rs25 (F25 F22 F52 F53 F58 F59 F61 F63 F75 F76 F77)) :=
  runFn_ok mixed tabOK (Δ := [(22, mkCall ps22 rs22 F22), (52, mkCall ps52 rs52 F52), (53, mkCall ps53 rs53 F53), (58, mkCall ps58 rs58 F58), (59, mkCall ps59 rs59 F59), (61, mkCall ps61 rs61 F61), (63, mkCall ps63 rs63 F63), (75, mkCall ps75 rs75 F75), (76, mkCall ps76 rs76 F76), (77, mkCall ps77 rs77 F77)]) ⟨h22, h52, h53, h58, h59, h61, h63, h75, h76, h77, trivial⟩ ⟨Try.func25, rfl, by kernel_rfl, by kernel_rfl, by kernel_rfl, by kernel_rfl⟩ rfl (loopsAt_zip (Λ := []) (cs := []) (by kernel_rfl) (by kernel_rfl) (by kernel_rfl) trivial)
/-! 79 (bowline/bigint.natural).compare -/
abbrev ps79 : List SV := [.d false tN, .d false tN]
abbrev rs79 : Shape := ⟨[(0, .d false tI)], []⟩
abbrev sh79_4 : Shape := ⟨[(3, .pt 0 0), (4, .pt 1 0)], [.box [.d false tN], .box [.d false tI]]⟩
abbrev w79_4 : List Way := [(none, ⟨[(4, .pt 0 0)], [.box [.d false tI]]⟩)]
noncomputable def S79_4 : El115 → sh79_4.den → Option (sh79_4.den ⊕ denX w79_4) := roundFn tb [] [] (upTo 33) Try.f79 4 avs115 [(5, 19), (6, 20)] sh79_4 w79_4
noncomputable def F79 (F108 : (SV.denL ps108) → Option (rs108).den) (D115 : Dt115) (g79_4 : List El115 → sh79_4.den → Option (sh79_4.den ⊕ denX w79_4)) : (SV.denL ps79) → Option (rs79).den := runFn tb [(108, mkCall ps108 rs108 F108)] [(4, rangeO (rgG Try.f79 4) 115 (cap115 D115) sh79_4 w79_4 g79_4)] Try.f79 ps79 rs79
theorem call79 {F108 : (SV.denL ps108) → Option (rs108).den} {g79_4 : List El115 → sh79_4.den → Option (sh79_4.den ⊕ denX w79_4)} {D115 : Dt115} (it115 : IterOK Try.prog 115 encs115 (cap115 D115)) (h108 : CallOK Try.prog 108 (mkCall ps108 rs108 F108)) (hg79_4 : foldR (S79_4) = g79_4) : CallOK Try.prog 79 (mkCall ps79 rs79 (F79 F108 D115 g79_4)) :=
  runFn_ok mixed tabOK (Δ := [(108, mkCall ps108 rs108 F108)]) ⟨h108, trivial⟩ ⟨Try.func79, rfl, by kernel_rfl, by kernel_rfl, by kernel_rfl, by kernel_rfl⟩ rfl (loopsAt_zip (cs := [.rangeFunc (rgG Try.f79 4) (rgP Try.f79 4) (rgA Try.f79 4) (rgB Try.f79 4)]) (by kernel_rfl) (by kernel_rfl) (by kernel_rfl) ⟨by rw [← hg79_4]; exact roundFn_ok mixed tabOK (Δ := []) trivial it115 ⟨by kernel_rfl, rel115, fun _ => rfl, by kernel_rfl, by kernel_rfl, by kernel_rfl, by kernel_rfl⟩ (loopsAt_zip (Λ := []) (cs := []) (by kernel_rfl) (by kernel_rfl) (by kernel_rfl) trivial), trivial⟩)
/-! 105 slices.Clone[bowline/bigint.natural,uint32] -/
abbrev ps105 : List SV := [.d false tN]
abbrev rs105 : Shape := ⟨[(0, .rf 0)], [.row tU 76]⟩
noncomputable def F105 : (SV.denL ps105) → Option (rs105).den := runFn tb [] [] Try.f105 ps105 rs105
theorem call105 : CallOK Try.prog 105 (mkCall ps105 rs105 (F105)) :=
  runFn_ok mixed tabOK (Δ := []) trivial ⟨Try.func105, rfl, by kernel_rfl, by kernel_rfl, by kernel_rfl, by kernel_rfl⟩ rfl (loopsAt_zip (Λ := []) (cs := []) (by kernel_rfl) (by kernel_rfl) (by kernel_rfl) trivial)
theorem F105_at (s : List Int) : F105 (s, ()) = if 0 < s.length then (if 0 + s.length ≤ 4294967296 then some (((), ()), (s, ())) else none) else meet (some (((), ()), ([], ()))) (if 0 + s.length ≤ 4294967296 then some (((), ()), (s, ())) else none) := by kernel_rfl
def C105 : (SV.denL ps105) → Option (rs105).den := fun x => if Nat.ble (List.length x.1) 4294967296 = true then some (((), ()), (x.1, ())) else none
theorem F105_C : F105 = C105 := by
  funext x
  obtain ⟨s, ⟨⟩⟩ := x
  rw [F105_at]
  unfold C105
  simp only [Nat.zero_add, Nat.ble_eq]
  split
  · rfl
  · have hs : s = [] := List.length_eq_zero_iff.1 (by omega)
    subst hs
    simp only [List.length_nil, Nat.zero_le, if_true]
    exact meet_self _
theorem callC105 : CallOK Try.prog 105 (mkCall ps105 rs105 C105) := by rw [← F105_C]; exact call105
/-! 106 math/bits.Sub32 -/
abbrev ps106 : List SV := [.d false tU, .d false tU, .d false tU]
abbrev rs106 : Shape := ⟨[(0, .d false tU), (1, .d false tU)], []⟩
noncomputable def F106 : (SV.denL ps106) → Option (rs106).den := runFn tb [] [] Try.f106 ps106 rs106
theorem call106 : CallOK Try.prog 106 (mkCall ps106 rs106 (F106)) :=
  runFn_ok mixed tabOK (Δ := []) trivial ⟨Try.func106, rfl, by kernel_rfl, by kernel_rfl, by kernel_rfl, by kernel_rfl⟩ rfl (loopsAt_zip (Λ := []) (cs := []) (by kernel_rfl) (by kernel_rfl) (by kernel_rfl) trivial)
/-! 107 math/bits.Add32 -/
abbrev ps107 : List SV := [.d false tU, .d false tU, .d false tU]
abbrev rs107 : Shape := ⟨[(0, .d false tU), (1, .d false tU)], []⟩
noncomputable def F107 : (SV.denL ps107) → Option (rs107).den := runFn tb [] [] Try.f107 ps107 rs107
theorem call107 : CallOK Try.prog 107 (mkCall ps107 rs107 (F107)) :=
  runFn_ok mixed tabOK (Δ := []) trivial ⟨Try.func107, rfl, by kernel_rfl, by kernel_rfl, by kernel_rfl, by kernel_rfl⟩ rfl (loopsAt_zip (Λ := []) (cs := []) (by kernel_rfl) (by kernel_rfl) (by kernel_rfl) trivial)
/-! 78 (bowline/bigint.natural).over -/
abbrev ps78 : List SV := [.d false tN, .d false tN]
abbrev rs78 : Shape := ⟨[(0, .d false tN), (1, .d false tN)], []⟩
abbrev sh78_9 : Shape := ⟨[(0, .d false tN), (8, .d false tI), (9, .d false tN), (10, .rf 0)], [.row tU 76]⟩
abbrev w78_9 : List Way := [(some 1, ⟨[(8, .d false tI), (9, .d false tN), (10, .rf 0)], [.row tU 76]⟩)]
abbrev sh78_18 : Shape := ⟨[(8, .d false tI), (9, .d false tN), (10, .rf 0), (11, .d false tI), (12, .rf 1), (13, .d false tI), (15, .d false (.int .u64)), (16, .d false (.int .u64))], [.row tU 76, .row tU 76]⟩
abbrev w78_18 : List Way := [(some 5, ⟨[(8, .d false tI), (9, .d false tN), (10, .rf 0), (11, .d false tI), (12, .rf 1), (13, .d false tI), (15, .d false (.int .u64))], [.row tU 76, .row tU 76]⟩)]
abbrev sh78_24 : Shape := ⟨[(8, .d false tI), (9, .d false tN), (10, .rf 0), (11, .d false tI), (12, .rf 1), (13, .d false tI), (15, .d false (.int .u64)), (17, .d false (.int .u64)), (18, .d false tU), (158, .d false tN), (159, .d false tI), (160, .d false tI)], [.row tU 76, .row tU 76]⟩
abbrev w78_24 : List Way := [(some 7, ⟨[(8, .d false tI), (9, .d false tN), (10, .rf 0), (11, .d false tI), (12, .rf 1), (13, .d false tI), (15, .d false (.int .u64)), (17, .d false (.int .u64)), (18, .d false tU)], [.row tU 76, .row tU 76]⟩)]
abbrev sh78_35 : Shape := ⟨[(8, .d false tI), (9, .d false tN), (10, .rf 0), (11, .d false tI), (12, .rf 1), (13, .d false tI), (15, .d false (.int .u64)), (22, .d false tU), (214, .d false tN), (215, .d false tI), (216, .d false tI)], [.row tU 76, .row tU 76]⟩
abbrev w78_35 : List Way := [(some 9, ⟨[(8, .d false tI), (9, .d false tN), (10, .rf 0), (11, .d false tI), (12, .rf 1), (13, .d false tI), (15, .d false (.int .u64)), (22, .d false tU)], [.row tU 76, .row tU 76]⟩)]
abbrev sh78_14 : Shape := ⟨[(8, .d false tI), (9, .d false tN), (10, .rf 0), (11, .d false tI), (12, .rf 1), (13, .d false tI)], [.row tU 76, .row tU 76]⟩
abbrev w78_14 : List Way := [(some 3, ⟨[(8, .d false tI), (10, .rf 0), (12, .rf 1)], [.row tU 76, .row tU 76]⟩)]
noncomputable def S78_9 : sh78_9.den → Option (sh78_9.den ⊕ denX w78_9) := stepFn tb [] [] (upTo 263) Try.f78 9 sh78_9 w78_9
noncomputable def S78_18 : sh78_18.den → Option (sh78_18.den ⊕ denX w78_18) := stepFn tb [] [] (upTo 263) Try.f78 18 sh78_18 w78_18
noncomputable def S78_24 (F106 : (SV.denL ps106) → Option (rs106).den) : sh78_24.den → Option (sh78_24.den ⊕ denX w78_24) := stepFn tb [(106, mkCall ps106 rs106 F106)] [] (upTo 263) Try.f78 24 sh78_24 w78_24
noncomputable def S78_35 (F107 : (SV.denL ps107) → Option (rs107).den) : sh78_35.den → Option (sh78_35.den ⊕ denX w78_35) := stepFn tb [(107, mkCall ps107 rs107 F107)] [] (upTo 263) Try.f78 35 sh78_35 w78_35
noncomputable def S78_14 (F106 : (SV.denL ps106) → Option (rs106).den) (g78_18 : sh78_18.den → Option (denX w78_18)) (g78_24 : sh78_24.den → Option (denX w78_24)) (g78_35 : sh78_35.den → Option (denX w78_35)) : sh78_14.den → Option (sh78_14.den ⊕ denX w78_14) := stepFn tb [(106, mkCall ps106 rs106 F106)] [(18, lp sh78_18 w78_18 g78_18), (24, lp sh78_24 w78_24 g78_24), (35, lp sh78_35 w78_35 g78_35)] (upTo 263) Try.f78 14 sh78_14 w78_14
noncomputable def F78 (F58 : (SV.denL ps58) → Option (rs58).den) (F76 : (SV.denL ps76) → Option (rs76).den) (F77 : (SV.denL ps77) → Option (rs77).den) (F79 : (SV.denL ps79) → Option (rs79).den) (F96 : (SV.denL ps96) → Option (rs96).den) (F99 : (SV.denL ps99) → Option (rs99).den) (F100 : (SV.denL ps100) → Option (rs100).den) (F105 : (SV.denL ps105) → Option (rs105).den) (g78_9 : sh78_9.den → Option (denX w78_9)) (g78_14 : sh78_14.den → Option (denX w78_14)) : (SV.denL ps78) → Option (rs78).den := runFn tb [(58, mkCall ps58 rs58 F58), (76, mkCall ps76 rs76 F76), (77, mkCall ps77 rs77 F77), (79, mkCall ps79 rs79 F79), (96, mkCall ps96 rs96 F96), (99, mkCall ps99 rs99 F99), (100, mkCall ps100 rs100 F100), (105, mkCall ps105 rs105 F105)] [(9, lp sh78_9 w78_9 g78_9), (14, lp sh78_14 w78_14 g78_14)] Try.f78 ps78 rs78
theorem call78 {F100 : (SV.denL ps100) → Option (rs100).den} {F105 : (SV.denL ps105) → Option (rs105).den} {F106 : (SV.denL ps106) → Option (rs106).den} {F107 : (SV.denL ps107) → Option (rs107).den} {F58 : (SV.denL ps58) → Option (rs58).den} {F76 : (SV.denL ps76) → Option (rs76).den} {F77 : (SV.denL ps77) → Option (rs77).den} {F79 : (SV.denL ps79) → Option (rs79).den} {F96 : (SV.denL ps96) → Option (rs96).den} {F99 : (SV.denL ps99) → Option (rs99).den} {g78_9 : sh78_9.den → Option (denX w78_9)} {g78_18 : sh78_18.den → Option (denX w78_18)} {g78_24 : sh78_24.den → Option (denX w78_24)} {g78_35 : sh78_35.den → Option (denX w78_35)} {g78_14 : sh78_14.den → Option (denX w78_14)} (h100 : CallOK Try.prog 100 (mkCall ps100 rs100 F100)) (h105 : CallOK Try.prog 105 (mkCall ps105 rs105 F105)) (h106 : CallOK Try.prog 106 (mkCall ps106 rs106 F106)) (h107 : CallOK Try.prog 107 (mkCall ps107 rs107 F107)) (h58 : CallOK Try.prog 58 (mkCall ps58 rs58 F58)) (h76 : CallOK Try.prog 76 (mkCall ps76 rs76 F76)) (h77 : CallOK Try.prog 77 (mkCall ps77 rs77 F77)) (h79 : CallOK Try.prog 79 (mkCall ps79 rs79 F79)) (h96 : CallOK Try.prog 96 (mkCall ps96 rs96 F96)) (h99 : CallOK Try.prog 99 (mkCall ps99 rs99 F99)) (hg78_9 : Lim (S78_9) g78_9) (hg78_18 : Lim (S78_18) g78_18) (hg78_24 : Lim (S78_24 F106) g78_24) (hg78_35 : Lim (S78_35 F107) g78_35) (hg78_14 : Lim (S78_14 F106 g78_18 g78_24 g78_35) g78_14) : CallOK Try.prog 78 (mkCall ps78 rs78 (F78 F58 F76 F77 F79 F96 F99 F100 F105 g78_9 g78_14)) :=
  runFn_ok mixed tabOK (Δ := [(58, mkCall ps58 rs58 F58), (76, mkCall ps76 rs76 F76), (77, mkCall ps77 rs77 F77), (79, mkCall ps79 rs79 F79), (96, mkCall ps96 rs96 F96), (99, mkCall ps99 rs99 F99), (100, mkCall ps100 rs100 F100), (105, mkCall ps105 rs105 F105)]) ⟨h58, h76, h77, h79, h96, h99, h100, h105, trivial⟩ ⟨Try.func78, rfl, by kernel_rfl, by kernel_rfl, by kernel_rfl, by kernel_rfl⟩ rfl (loopsAt_zip (cs := [.loop (loopOf Try.f78 9), .loop (loopOf Try.f78 14)]) (by kernel_rfl) (by kernel_rfl) (by kernel_rfl) ⟨stepLim_ok mixed tabOK (Δ := []) trivial hg78_9 (loopsAt_zip (Λ := []) (cs := []) (by kernel_rfl) (by kernel_rfl) (by kernel_rfl) trivial), stepLim_ok mixed tabOK (Δ := [(106, mkCall ps106 rs106 F106)]) ⟨h106, trivial⟩ hg78_14 (loopsAt_zip (cs := [.loop (loopOf Try.f78 18), .loop (loopOf Try.f78 24), .loop (loopOf Try.f78 35)]) (by kernel_rfl) (by kernel_rfl) (by kernel_rfl) ⟨stepLim_ok mixed tabOK (Δ := []) trivial hg78_18 (loopsAt_zip (Λ := []) (cs := []) (by kernel_rfl) (by kernel_rfl) (by kernel_rfl) trivial), stepLim_ok mixed tabOK (Δ := [(106, mkCall ps106 rs106 F106)]) ⟨h106, trivial⟩ hg78_24 (loopsAt_zip (Λ := []) (cs := []) (by kernel_rfl) (by kernel_rfl) (by kernel_rfl) trivial), stepLim_ok mixed tabOK (Δ := [(107, mkCall ps107 rs107 F107)]) ⟨h107, trivial⟩ hg78_35 (loopsAt_zip (Λ := []) (cs := []) (by kernel_rfl) (by kernel_rfl) (by kernel_rfl) trivial), trivial⟩), trivial⟩)
/-! 27 bowline/bigint.Root -/
abbrev ps27 : List SV := [.d true tZ]
abbrev rs27 : Shape := ⟨[(0, .d true tZ), (1, .d false tI)], []⟩
abbrev sh27_8 : Shape := ⟨[(2, .pt 0 0), (5, .d false tN), (6, .d false tN)], [.box [.d false .bool, .d false tN]]⟩
abbrev w27_8 : List Way := [(none, ⟨[(2, .pt 0 0), (3, .d false tI)], [.box [.d false .bool, .d false tN]]⟩)]
noncomputable def S27_8 (F59 : (SV.denL ps59) → Option (rs59).den) (F61 : (SV.denL ps61) → Option (rs61).den) (F77 : (SV.denL ps77) → Option (rs77).den) (F78 : (SV.denL ps78) → Option (rs78).den) (F79 : (SV.denL ps79) → Option (rs79).den) : sh27_8.den → Option (sh27_8.den ⊕ denX w27_8) := stepFn tb [(59, mkCall ps59 rs59 F59), (61, mkCall ps61 rs61 F61), (77, mkCall ps77 rs77 F77), (78, mkCall ps78 rs78 F78), (79, mkCall ps79 rs79 F79)] [] (upTo 54) Try.f27 8 sh27_8 w27_8
noncomputable def F27 (F22 : (SV.denL ps22) → Option (rs22).den) (F52 : (SV.denL ps52) → Option (rs52).den) (F53 : (SV.denL ps53) → Option (rs53).den) (F58 : (SV.denL ps58) → Option (rs58).den) (F63 : (SV.denL ps63) → Option (rs63).den) (F69 : (SV.denL ps69) → Option (rs69).den) (F76 : (SV.denL ps76) → Option (rs76).den) (g27_8 : sh27_8.den → Option (denX w27_8)) : (SV.denL ps27) → Option (rs27).den := runFn tb [(22, mkCall ps22 rs22 F22), (52, mkCall ps52 rs52 F52), (53, mkCall ps53 rs53 F53), (58, mkCall ps58 rs58 F58), (63, mkCall ps63 rs63 F63), (69, mkCall ps69 rs69 F69), (76, mkCall ps76 rs76 F76)] [(8, lp sh27_8 w27_8 g27_8)] Try.f27 ps27 rs27
theorem call27 {F22 : (SV.denL ps22) → Option (rs22).den} {F52 : (SV.denL ps52) → Option (rs52).den} {F53 : (SV.denL ps53) → Option (rs53).den} {F58 : (SV.denL ps58) → Option (rs58).den} {F59 : (SV.denL ps59) → Option (rs59).den} {F61 : (SV.denL ps61) → Option (rs61).den} {F63 : (SV.denL ps63) → Option (rs63).den} {F69 : (SV.denL ps69) → Option (rs69).den} {F76 : (SV.denL ps76) → Option (rs76).den} {F77 : (SV.denL ps77) → Option (rs77).den} {F78 : (SV.denL ps78) → Option (rs78).den} {F79 : (SV.denL ps79) → Option (rs79).den} {g27_8 : sh27_8.den → Option (denX w27_8)} (h22 : CallOK Try.prog 22 (mkCall ps22 rs22 F22)) (h52 : CallOK Try.prog 52 (mkCall ps52 rs52 F52)) (h53 : CallOK Try.prog 53 (mkCall ps53 rs53 F53)) (h58 : CallOK Try.prog 58 (mkCall ps58 rs58 F58)) (h59 : CallOK Try.prog 59 (mkCall ps59 rs59 F59)) (h61 : CallOK Try.prog 61 (mkCall ps61 rs61 F61)) (h63 : CallOK Try.prog 63 (mkCall ps63 rs63 F63)) (h69 : CallOK Try.prog 69 (mkCall ps69 rs69 F69)) (h76 : CallOK Try.prog 76 (mkCall ps76 rs76 F76)) (h77 : CallOK Try.prog 77 (mkCall ps77 rs77 F77)) (h78 : CallOK Try.prog 78 (mkCall ps78 rs78 F78)) (h79 : CallOK Try.prog 79 (mkCall ps79 rs79 F79)) (hg27_8 : Lim (S27_8 F59 F61 F77 F78 F79) g27_8) : CallOK Try.prog 27 (mkCall ps27 rs27 (F27 F22 F52 F53 F58 F63 F69 F76 g27_8)) :=
  runFn_ok mixed tabOK (Δ := [(22, mkCall ps22 rs22 F22), (52, mkCall ps52 rs52 F52), (53, mkCall ps53 rs53 F53), (58, mkCall ps58 rs58 F58), (63, mkCall ps63 rs63 F63), (69, mkCall ps69 rs69 F69), (76, mkCall ps76 rs76 F76)]) ⟨h22, h52, h53, h58, h63, h69, h76, trivial⟩ ⟨Try.func27, rfl, by kernel_rfl, by kernel_rfl, by kernel_rfl, by kernel_rfl⟩ rfl (loopsAt_zip (cs := [.loop (loopOf Try.f27 8)]) (by kernel_rfl) (by kernel_rfl) (by kernel_rfl) ⟨stepLim_ok mixed tabOK (Δ := [(59, mkCall ps59 rs59 F59), (61, mkCall ps61 rs61 F61), (77, mkCall ps77 rs77 F77), (78, mkCall ps78 rs78 F78), (79, mkCall ps79 rs79 F79)]) ⟨h59, h61, h77, h78, h79, trivial⟩ hg27_8 (loopsAt_zip (Λ := []) (cs := []) (by kernel_rfl) (by kernel_rfl) (by kernel_rfl) trivial), trivial⟩)
/-! 109 bowline/bigint.mapped[bowline/bigint.Int,bowline/api.Errno] -/
abbrev ps109 : List SV := [.d false (.sl tZ), .d false (.fk 22)]
abbrev rs109 : Shape := ⟨[(0, .d false (.sl tI))], []⟩
abbrev sh109_3 : Shape := ⟨[(1, .fn 22 []), (5, .rf 0), (8, .d false (.sl tZ)), (9, .d false tI), (10, .d false tI)], [.row tI 29]⟩
abbrev w109_3 : List Way := [(some 0, ⟨[(5, .rf 0)], [.row tI 29]⟩)]
noncomputable def S109_3 (F22 : (SV.denL ps22) → Option (rs22).den) : sh109_3.den → Option (sh109_3.den ⊕ denX w109_3) := stepFn tb [(22, mkCall ps22 rs22 F22)] [] (upTo 22) Try.f109 3 sh109_3 w109_3
noncomputable def F109 (g109_3 : sh109_3.den → Option (denX w109_3)) : (SV.denL ps109) → Option (rs109).den := runFn tb [] [(3, lp sh109_3 w109_3 g109_3)] Try.f109 ps109 rs109
theorem call109 {F22 : (SV.denL ps22) → Option (rs22).den} {g109_3 : sh109_3.den → Option (denX w109_3)} (h22 : CallOK Try.prog 22 (mkCall ps22 rs22 F22)) (hg109_3 : Lim (S109_3 F22) g109_3) : CallOK Try.prog 109 (mkCall ps109 rs109 (F109 g109_3)) :=
  runFn_ok mixed tabOK (Δ := []) trivial ⟨Try.func109, rfl, by kernel_rfl, by kernel_rfl, by kernel_rfl, by kernel_rfl⟩ rfl (loopsAt_zip (cs := [.loop (loopOf Try.f109 3)]) (by kernel_rfl) (by kernel_rfl) (by kernel_rfl) ⟨stepLim_ok mixed tabOK (Δ := [(22, mkCall ps22 rs22 F22)]) ⟨h22, trivial⟩ hg109_3 (loopsAt_zip (Λ := []) (cs := []) (by kernel_rfl) (by kernel_rfl) (by kernel_rfl) trivial), trivial⟩)
/-! 85 bowline/bigint.checked -/
abbrev ps85 : List SV := [.d false (.sl tZ)]
abbrev rs85 : Shape := ⟨[(0, .d false tI)], []⟩
noncomputable def F85 (F52 : (SV.denL ps52) → Option (rs52).den) (F109 : (SV.denL ps109) → Option (rs109).den) : (SV.denL ps85) → Option (rs85).den := runFn tb [(52, mkCall ps52 rs52 F52), (109, mkCall ps109 rs109 F109)] [] Try.f85 ps85 rs85
theorem call85 {F109 : (SV.denL ps109) → Option (rs109).den} {F52 : (SV.denL ps52) → Option (rs52).den} (h109 : CallOK Try.prog 109 (mkCall ps109 rs109 F109)) (h52 : CallOK Try.prog 52 (mkCall ps52 rs52 F52)) : CallOK Try.prog 85 (mkCall ps85 rs85 (F85 F52 F109)) :=
  runFn_ok mixed tabOK (Δ := [(52, mkCall ps52 rs52 F52), (109, mkCall ps109 rs109 F109)]) ⟨h52, h109, trivial⟩ ⟨Try.func85, rfl, by kernel_rfl, by kernel_rfl, by kernel_rfl, by kernel_rfl⟩ rfl (loopsAt_zip (Λ := []) (cs := []) (by kernel_rfl) (by kernel_rfl) (by kernel_rfl) trivial)
/-! 110 (bowline/bigint.natural).minus -/
abbrev ps110 : List SV := [.d false tN, .d false tN]
abbrev rs110 : Shape := ⟨[(0, .d false tN)], []⟩
abbrev sh110_4 : Shape := ⟨[(0, .d false tN), (1, .d false tN), (5, .rf 0), (6, .d false tU), (12, .d false tI), (13, .d false tI)], [.row tU 76]⟩
abbrev w110_4 : List Way := [(some 0, ⟨[(5, .rf 0)], [.row tU 76]⟩)]
noncomputable def S110_4 (F71 : (SV.denL ps71) → Option (rs71).den) (F106 : (SV.denL ps106) → Option (rs106).den) : sh110_4.den → Option (sh110_4.den ⊕ denX w110_4) := stepFn tb [(71, mkCall ps71 rs71 F71), (106, mkCall ps106 rs106 F106)] [] (upTo 34) Try.f110 4 sh110_4 w110_4
noncomputable def F110 (F96 : (SV.denL ps96) → Option (rs96).den) (g110_4 : sh110_4.den → Option (denX w110_4)) : (SV.denL ps110) → Option (rs110).den := runFn tb [(96, mkCall ps96 rs96 F96)] [(4, lp sh110_4 w110_4 g110_4)] Try.f110 ps110 rs110
theorem call110 {F106 : (SV.denL ps106) → Option (rs106).den} {F71 : (SV.denL ps71) → Option (rs71).den} {F96 : (SV.denL ps96) → Option (rs96).den} {g110_4 : sh110_4.den → Option (denX w110_4)} (h106 : CallOK Try.prog 106 (mkCall ps106 rs106 F106)) (h71 : CallOK Try.prog 71 (mkCall ps71 rs71 F71)) (h96 : CallOK Try.prog 96 (mkCall ps96 rs96 F96)) (hg110_4 : Lim (S110_4 F71 F106) g110_4) : CallOK Try.prog 110 (mkCall ps110 rs110 (F110 F96 g110_4)) :=
  runFn_ok mixed tabOK (Δ := [(96, mkCall ps96 rs96 F96)]) ⟨h96, trivial⟩ ⟨Try.func110, rfl, by kernel_rfl, by kernel_rfl, by kernel_rfl, by kernel_rfl⟩ rfl (loopsAt_zip (cs := [.loop (loopOf Try.f110 4)]) (by kernel_rfl) (by kernel_rfl) (by kernel_rfl) ⟨stepLim_ok mixed tabOK (Δ := [(71, mkCall ps71 rs71 F71), (106, mkCall ps106 rs106 F106)]) ⟨h71, h106, trivial⟩ hg110_4 (loopsAt_zip (Λ := []) (cs := []) (by kernel_rfl) (by kernel_rfl) (by kernel_rfl) trivial), trivial⟩)
/-! 87 bowline/bigint.sum -/
abbrev ps87 : List SV := [.d true tZ, .d true tZ]
abbrev rs87 : Shape := ⟨[(0, .d true tZ)], []⟩
noncomputable def F87 (F59 : (SV.denL ps59) → Option (rs59).den) (F61 : (SV.denL ps61) → Option (rs61).den) (F63 : (SV.denL ps63) → Option (rs63).den) (F79 : (SV.denL ps79) → Option (rs79).den) (F110 : (SV.denL ps110) → Option (rs110).den) : (SV.denL ps87) → Option (rs87).den := runFn tb [(59, mkCall ps59 rs59 F59), (61, mkCall ps61 rs61 F61), (63, mkCall ps63 rs63 F63), (79, mkCall ps79 rs79 F79), (110, mkCall ps110 rs110 F110)] [] Try.f87 ps87 rs87
theorem call87 {F110 : (SV.denL ps110) → Option (rs110).den} {F59 : (SV.denL ps59) → Option (rs59).den} {F61 : (SV.denL ps61) → Option (rs61).den} {F63 : (SV.denL ps63) → Option (rs63).den} {F79 : (SV.denL ps79) → Option (rs79).den} (h110 : CallOK Try.prog 110 (mkCall ps110 rs110 F110)) (h59 : CallOK Try.prog 59 (mkCall ps59 rs59 F59)) (h61 : CallOK Try.prog 61 (mkCall ps61 rs61 F61)) (h63 : CallOK Try.prog 63 (mkCall ps63 rs63 F63)) (h79 : CallOK Try.prog 79 (mkCall ps79 rs79 F79)) : CallOK Try.prog 87 (mkCall ps87 rs87 (F87 F59 F61 F63 F79 F110)) :=
  runFn_ok mixed tabOK (Δ := [(59, mkCall ps59 rs59 F59), (61, mkCall ps61 rs61 F61), (63, mkCall ps63 rs63 F63), (79, mkCall ps79 rs79 F79), (110, mkCall ps110 rs110 F110)]) ⟨h59, h61, h63, h79, h110, trivial⟩ ⟨Try.func87, rfl, by kernel_rfl, by kernel_rfl, by kernel_rfl, by kernel_rfl⟩ rfl (loopsAt_zip (Λ := []) (cs := []) (by kernel_rfl) (by kernel_rfl) (by kernel_rfl) trivial)
/-! 88 bowline/bigint.negated -/
abbrev ps88 : List SV := [.d true tZ]
abbrev rs88 : Shape := ⟨[(0, .d true tZ)], []⟩
noncomputable def F88 (F61 : (SV.denL ps61) → Option (rs61).den) (F63 : (SV.denL ps63) → Option (rs63).den) : (SV.denL ps88) → Option (rs88).den := runFn tb [(61, mkCall ps61 rs61 F61), (63, mkCall ps63 rs63 F63)] [] Try.f88 ps88 rs88
theorem call88 {F61 : (SV.denL ps61) → Option (rs61).den} {F63 : (SV.denL ps63) → Option (rs63).den} (h61 : CallOK Try.prog 61 (mkCall ps61 rs61 F61)) (h63 : CallOK Try.prog 63 (mkCall ps63 rs63 F63)) : CallOK Try.prog 88 (mkCall ps88 rs88 (F88 F61 F63)) :=
  runFn_ok mixed tabOK (Δ := [(61, mkCall ps61 rs61 F61), (63, mkCall ps63 rs63 F63)]) ⟨h61, h63, trivial⟩ ⟨Try.func88, rfl, by kernel_rfl, by kernel_rfl, by kernel_rfl, by kernel_rfl⟩ rfl (loopsAt_zip (Λ := []) (cs := []) (by kernel_rfl) (by kernel_rfl) (by kernel_rfl) trivial)
/-! 89 bowline/bigint.product -/
abbrev ps89 : List SV := [.d true tZ, .d true tZ]
abbrev rs89 : Shape := ⟨[(0, .d true tZ)], []⟩
noncomputable def F89 (F57 : (SV.denL ps57) → Option (rs57).den) (F61 : (SV.denL ps61) → Option (rs61).den) (F63 : (SV.denL ps63) → Option (rs63).den) : (SV.denL ps89) → Option (rs89).den := runFn tb [(57, mkCall ps57 rs57 F57), (61, mkCall ps61 rs61 F61), (63, mkCall ps63 rs63 F63)] [] Try.f89 ps89 rs89
theorem call89 {F57 : (SV.denL ps57) → Option (rs57).den} {F61 : (SV.denL ps61) → Option (rs61).den} {F63 : (SV.denL ps63) → Option (rs63).den} (h57 : CallOK Try.prog 57 (mkCall ps57 rs57 F57)) (h61 : CallOK Try.prog 61 (mkCall ps61 rs61 F61)) (h63 : CallOK Try.prog 63 (mkCall ps63 rs63 F63)) : CallOK Try.prog 89 (mkCall ps89 rs89 (F89 F57 F61 F63)) :=
  runFn_ok mixed tabOK (Δ := [(57, mkCall ps57 rs57 F57), (61, mkCall ps61 rs61 F61), (63, mkCall ps63 rs63 F63)]) ⟨h57, h61, h63, trivial⟩ ⟨Try.func89, rfl, by kernel_rfl, by kernel_rfl, by kernel_rfl, by kernel_rfl⟩ rfl (loopsAt_zip (Λ := []) (cs := []) (by kernel_rfl) (by kernel_rfl) (by kernel_rfl) trivial)
/-! 86 bowline/bigint.Gcd$1 -/
abbrev ps86 : List SV := [.d true tZ, .d true tZ, .d true tZ]
abbrev rs86 : Shape := ⟨[(0, .d true tZ)], []⟩
noncomputable def F86 (F87 : (SV.denL ps87) → Option (rs87).den) (F88 : (SV.denL ps88) → Option (rs88).den) (F89 : (SV.denL ps89) → Option (rs89).den) : (SV.denL ps86) → Option (rs86).den := runFn tb [(87, mkCall ps87 rs87 F87), (88, mkCall ps88 rs88 F88), (89, mkCall ps89 rs89 F89)] [] Try.f86 ps86 rs86
theorem call86 {F87 : (SV.denL ps87) → Option (rs87).den} {F88 : (SV.denL ps88) → Option (rs88).den} {F89 : (SV.denL ps89) → Option (rs89).den} (h87 : CallOK Try.prog 87 (mkCall ps87 rs87 F87)) (h88 : CallOK Try.prog 88 (mkCall ps88 rs88 F88)) (h89 : CallOK Try.prog 89 (mkCall ps89 rs89 F89)) : CallOK Try.prog 86 (mkCall ps86 rs86 (F86 F87 F88 F89)) :=
  runFn_ok mixed tabOK (Δ := [(87, mkCall ps87 rs87 F87), (88, mkCall ps88 rs88 F88), (89, mkCall ps89 rs89 F89)]) ⟨h87, h88, h89, trivial⟩ ⟨Try.func86, rfl, by kernel_rfl, by kernel_rfl, by kernel_rfl, by kernel_rfl⟩ rfl (loopsAt_zip (Λ := []) (cs := []) (by kernel_rfl) (by kernel_rfl) (by kernel_rfl) trivial)
/-! 90 bowline/bigint.divided -/
abbrev ps90 : List SV := [.d true tZ, .d true tZ]
abbrev rs90 : Shape := ⟨[(0, .d true tZ), (1, .d true tZ)], []⟩
noncomputable def F90 (F61 : (SV.denL ps61) → Option (rs61).den) (F63 : (SV.denL ps63) → Option (rs63).den) (F78 : (SV.denL ps78) → Option (rs78).den) (F87 : (SV.denL ps87) → Option (rs87).den) : (SV.denL ps90) → Option (rs90).den := runFn tb [(61, mkCall ps61 rs61 F61), (63, mkCall ps63 rs63 F63), (78, mkCall ps78 rs78 F78), (87, mkCall ps87 rs87 F87)] [] Try.f90 ps90 rs90
theorem call90 {F61 : (SV.denL ps61) → Option (rs61).den} {F63 : (SV.denL ps63) → Option (rs63).den} {F78 : (SV.denL ps78) → Option (rs78).den} {F87 : (SV.denL ps87) → Option (rs87).den} (h61 : CallOK Try.prog 61 (mkCall ps61 rs61 F61)) (h63 : CallOK Try.prog 63 (mkCall ps63 rs63 F63)) (h78 : CallOK Try.prog 78 (mkCall ps78 rs78 F78)) (h87 : CallOK Try.prog 87 (mkCall ps87 rs87 F87)) : CallOK Try.prog 90 (mkCall ps90 rs90 (F90 F61 F63 F78 F87)) :=
  runFn_ok mixed tabOK (Δ := [(61, mkCall ps61 rs61 F61), (63, mkCall ps63 rs63 F63), (78, mkCall ps78 rs78 F78), (87, mkCall ps87 rs87 F87)]) ⟨h61, h63, h78, h87, trivial⟩ ⟨Try.func90, rfl, by kernel_rfl, by kernel_rfl, by kernel_rfl, by kernel_rfl⟩ rfl (loopsAt_zip (Λ := []) (cs := []) (by kernel_rfl) (by kernel_rfl) (by kernel_rfl) trivial)
/-! 29 bowline/bigint.Gcd -/
abbrev ps29 : List SV := [.d true tZ, .d true tZ]
abbrev rs29 : Shape := ⟨[(0, .d true tZ), (1, .d true (.pr tZ tZ)), (2, .d false tI)], []⟩
abbrev sh29_12 : Shape := ⟨[(2, .pt 0 0), (3, .pt 1 0), (4, .pt 2 0), (5, .pt 3 0), (9, .pt 4 0), (10, .pt 5 0), (11, .fn 86 []), (12, .pt 6 0), (14, .pt 7 0), (58, .d false tI)], [.box [.d false .bool, .d false tN], .box [.d false .bool, .d false tN], .box [.d false .bool, .d false tN], .box [.d false .bool, .d false tN, .d false .bool, .d false tN], .box [.d false .bool, .d false tN, .d false .bool, .d false tN, .d false .bool, .d false tN], .box [.d false .bool, .d false tN, .d false .bool, .d false tN, .d false .bool, .d false tN], .box [.d false .bool, .d false tN], .box [.d false .bool, .d false tN, .d false .bool, .d false tN, .d false .bool, .d false tN]]⟩
abbrev w29_12 : List Way := [(some 2, ⟨[(2, .pt 0 0), (3, .pt 1 0), (4, .pt 2 0), (5, .pt 3 0), (9, .pt 4 0), (10, .pt 5 0), (11, .fn 86 []), (14, .pt 6 0)], [.box [.d false .bool, .d false tN], .box [.d false .bool, .d false tN], .box [.d false .bool, .d false tN], .box [.d false .bool, .d false tN, .d false .bool, .d false tN], .box [.d false .bool, .d false tN, .d false .bool, .d false tN, .d false .bool, .d false tN], .box [.d false .bool, .d false tN, .d false .bool, .d false tN, .d false .bool, .d false tN], .box [.d false .bool, .d false tN, .d false .bool, .d false tN, .d false .bool, .d false tN]]⟩)]
abbrev sh29_8 : Shape := ⟨[(2, .pt 0 0), (3, .pt 1 0), (4, .pt 2 0), (5, .pt 3 0), (9, .pt 4 0), (10, .pt 5 0), (11, .fn 86 [])], [.box [.d false .bool, .d false tN], .box [.d false .bool, .d false tN], .box [.d false .bool, .d false tN], .box [.d false .bool, .d false tN, .d false .bool, .d false tN], .box [.d false .bool, .d false tN, .d false .bool, .d false tN, .d false .bool, .d false tN], .box [.d false .bool, .d false tN, .d false .bool, .d false tN, .d false .bool, .d false tN]]⟩
abbrev w29_8 : List Way := [(some 0, ⟨[(2, .pt 0 0), (3, .pt 1 0), (4, .pt 2 0), (5, .pt 3 0), (9, .pt 4 0)], [.box [.d false .bool, .d false tN], .box [.d false .bool, .d false tN], .box [.d false .bool, .d false tN], .box [.d false .bool, .d false tN, .d false .bool, .d false tN], .box [.d false .bool, .d false tN, .d false .bool, .d false tN, .d false .bool, .d false tN]]⟩)]
abbrev sh29_18 : Shape := ⟨[(4, .pt 0 0), (5, .pt 1 0), (9, .pt 2 0), (80, .d true (.pr tZ tZ)), (81, .d false tI)], [.box [.d false .bool, .d false tN], .box [.d false .bool, .d false tN, .d false .bool, .d false tN], .box [.d false .bool, .d false tN, .d false .bool, .d false tN, .d false .bool, .d false tN]]⟩
abbrev w29_18 : List Way := [(none, ⟨[(4, .pt 0 0), (5, .pt 1 0), (6, .d false tI)], [.box [.d false .bool, .d false tN], .box [.d false .bool, .d false tN, .d false .bool, .d false tN]]⟩), (some 4, ⟨[(4, .pt 0 0), (5, .pt 1 0), (9, .pt 2 0)], [.box [.d false .bool, .d false tN], .box [.d false .bool, .d false tN, .d false .bool, .d false tN], .box [.d false .bool, .d false tN, .d false .bool, .d false tN, .d false .bool, .d false tN]]⟩)]
noncomputable def S29_12 (F86 : (SV.denL ps86) → Option (rs86).den) : sh29_12.den → Option (sh29_12.den ⊕ denX w29_12) := stepFn tb [(86, mkCall ps86 rs86 F86)] [] (upTo 109) Try.f29 12 sh29_12 w29_12
noncomputable def S29_8 (F90 : (SV.denL ps90) → Option (rs90).den) (g29_12 : sh29_12.den → Option (denX w29_12)) : sh29_8.den → Option (sh29_8.den ⊕ denX w29_8) := stepFn tb [(90, mkCall ps90 rs90 F90)] [(12, lp sh29_12 w29_12 g29_12)] (upTo 109) Try.f29 8 sh29_8 w29_8
noncomputable def S29_18 (F88 : (SV.denL ps88) → Option (rs88).den) : sh29_18.den → Option (sh29_18.den ⊕ denX w29_18) := stepFn tb [(88, mkCall ps88 rs88 F88)] [] (upTo 109) Try.f29 18 sh29_18 w29_18
noncomputable def F29 (F58 : (SV.denL ps58) → Option (rs58).den) (F61 : (SV.denL ps61) → Option (rs61).den) (F63 : (SV.denL ps63) → Option (rs63).den) (F85 : (SV.denL ps85) → Option (rs85).den) (g29_8 : sh29_8.den → Option (denX w29_8)) (g29_18 : sh29_18.den → Option (denX w29_18)) : (SV.denL ps29) → Option (rs29).den := runFn tb [(58, mkCall ps58 rs58 F58), (61, mkCall ps61 rs61 F61), (63, mkCall ps63 rs63 F63), (85, mkCall ps85 rs85 F85)] [(8, lp sh29_8 w29_8 g29_8), (18, lp sh29_18 w29_18 g29_18)] Try.f29 ps29 rs29
theorem call29 {F58 : (SV.denL ps58) → Option (rs58).den} {F61 : (SV.denL ps61) → Option (rs61).den} {F63 : (SV.denL ps63) → Option (rs63).den} {F85 : (SV.denL ps85) → Option (rs85).den} {F86 : (SV.denL ps86) → Option (rs86).den} {F88 : (SV.denL ps88) → Option (rs88).den} {F90 : (SV.denL ps90) → Option (rs90).den} {g29_12 : sh29_12.den → Option (denX w29_12)} {g29_8 : sh29_8.den → Option (denX w29_8)} {g29_18 : sh29_18.den → Option (denX w29_18)} (h58 : CallOK Try.prog 58 (mkCall ps58 rs58 F58)) (h61 : CallOK Try.prog 61 (mkCall ps61 rs61 F61)) (h63 : CallOK Try.prog 63 (mkCall ps63 rs63 F63)) (h85 : CallOK Try.prog 85 (mkCall ps85 rs85 F85)) (h86 : CallOK Try.prog 86 (mkCall ps86 rs86 F86)) (h88 : CallOK Try.prog 88 (mkCall ps88 rs88 F88)) (h90 : CallOK Try.prog 90 (mkCall ps90 rs90 F90)) (hg29_12 : Lim (S29_12 F86) g29_12) (hg29_8 : Lim (S29_8 F90 g29_12) g29_8) (hg29_18 : Lim (S29_18 F88) g29_18) : CallOK Try.prog 29 (mkCall ps29 rs29 (F29 F58 F61 F63 F85 g29_8 g29_18)) :=
  runFn_ok mixed tabOK (Δ := [(58, mkCall ps58 rs58 F58), (61, mkCall ps61 rs61 F61), (63, mkCall ps63 rs63 F63), (85, mkCall ps85 rs85 F85)]) ⟨h58, h61, h63, h85, trivial⟩ ⟨Try.func29, rfl, by kernel_rfl, by kernel_rfl, by kernel_rfl, by kernel_rfl⟩ rfl (loopsAt_zip (cs := [.loop (loopOf Try.f29 8), .loop (loopOf Try.f29 18)]) (by kernel_rfl) (by kernel_rfl) (by kernel_rfl) ⟨stepLim_ok mixed tabOK (Δ := [(90, mkCall ps90 rs90 F90)]) ⟨h90, trivial⟩ hg29_8 (loopsAt_zip (cs := [.loop (loopOf Try.f29 12)]) (by kernel_rfl) (by kernel_rfl) (by kernel_rfl) ⟨stepLim_ok mixed tabOK (Δ := [(86, mkCall ps86 rs86 F86)]) ⟨h86, trivial⟩ hg29_12 (loopsAt_zip (Λ := []) (cs := []) (by kernel_rfl) (by kernel_rfl) (by kernel_rfl) trivial), trivial⟩), stepLim_ok mixed tabOK (Δ := [(88, mkCall ps88 rs88 F88)]) ⟨h88, trivial⟩ hg29_18 (loopsAt_zip (Λ := []) (cs := []) (by kernel_rfl) (by kernel_rfl) (by kernel_rfl) trivial), trivial⟩)
/-! 31 bowline/bigint.Power -/
abbrev ps31 : List SV := [.d true tZ, .d true tZ, .d true tZ]
abbrev rs31 : Shape := ⟨[(0, .d true tZ), (1, .d false tI)], []⟩
abbrev sh31_7 : Shape := ⟨[(4, .pt 0 0), (5, .pt 1 0), (6, .pt 2 0), (10, .pt 3 0), (12, .pt 4 0), (13, .d false tI)], [.box [.d false .bool, .d false tN], .box [.d false .bool, .d false tN], .box [.d false .bool, .d false tN], .box [.d false .bool, .d false tN], .box [.d false .bool, .d false tN]]⟩
abbrev w31_7 : List Way := [(some 0, ⟨[(6, .pt 0 0), (12, .pt 1 0)], [.box [.d false .bool, .d false tN], .box [.d false .bool, .d false tN]]⟩)]
noncomputable def S31_7 (F89 : (SV.denL ps89) → Option (rs89).den) (F90 : (SV.denL ps90) → Option (rs90).den) : sh31_7.den → Option (sh31_7.den ⊕ denX w31_7) := stepFn tb [(89, mkCall ps89 rs89 F89), (90, mkCall ps90 rs90 F90)] [] (upTo 91) Try.f31 7 sh31_7 w31_7
noncomputable def F31 (F52 : (SV.denL ps52) → Option (rs52).den) (F53 : (SV.denL ps53) → Option (rs53).den) (F58 : (SV.denL ps58) → Option (rs58).den) (F61 : (SV.denL ps61) → Option (rs61).den) (F63 : (SV.denL ps63) → Option (rs63).den) (F69 : (SV.denL ps69) → Option (rs69).den) (F85 : (SV.denL ps85) → Option (rs85).den) (F90 : (SV.denL ps90) → Option (rs90).den) (g31_7 : sh31_7.den → Option (denX w31_7)) : (SV.denL ps31) → Option (rs31).den := runFn tb [(52, mkCall ps52 rs52 F52), (53, mkCall ps53 rs53 F53), (58, mkCall ps58 rs58 F58), (61, mkCall ps61 rs61 F61), (63, mkCall ps63 rs63 F63), (69, mkCall ps69 rs69 F69), (85, mkCall ps85 rs85 F85), (90, mkCall ps90 rs90 F90)] [(7, lp sh31_7 w31_7 g31_7)] Try.f31 ps31 rs31
theorem call31 {F52 : (SV.denL ps52) → Option (rs52).den} {F53 : (SV.denL ps53) → Option (rs53).den} {F58 : (SV.denL ps58) → Option (rs58).den} {F61 : (SV.denL ps61) → Option (rs61).den} {F63 : (SV.denL ps63) → Option (rs63).den} {F69 : (SV.denL ps69) → Option (rs69).den} {F85 : (SV.denL ps85) → Option (rs85).den} {F89 : (SV.denL ps89) → Option (rs89).den} {F90 : (SV.denL ps90) → Option (rs90).den} {g31_7 : sh31_7.den → Option (denX w31_7)} (h52 : CallOK Try.prog 52 (mkCall ps52 rs52 F52)) (h53 : CallOK Try.prog 53 (mkCall ps53 rs53 F53)) (h58 : CallOK Try.prog 58 (mkCall ps58 rs58 F58)) (h61 : CallOK Try.prog 61 (mkCall ps61 rs61 F61)) (h63 : CallOK Try.prog 63 (mkCall ps63 rs63 F63)) (h69 : CallOK Try.prog 69 (mkCall ps69 rs69 F69)) (h85 : CallOK Try.prog 85 (mkCall ps85 rs85 F85)) (h89 : CallOK Try.prog 89 (mkCall ps89 rs89 F89)) (h90 : CallOK Try.prog 90 (mkCall ps90 rs90 F90)) (hg31_7 : Lim (S31_7 F89 F90) g31_7) : CallOK Try.prog 31 (mkCall ps31 rs31 (F31 F52 F53 F58 F61 F63 F69 F85 F90 g31_7)) :=
  runFn_ok mixed tabOK (Δ := [(52, mkCall ps52 rs52 F52), (53, mkCall ps53 rs53 F53), (58, mkCall ps58 rs58 F58), (61, mkCall ps61 rs61 F61), (63, mkCall ps63 rs63 F63), (69, mkCall ps69 rs69 F69), (85, mkCall ps85 rs85 F85), (90, mkCall ps90 rs90 F90)]) ⟨h52, h53, h58, h61, h63, h69, h85, h90, trivial⟩ ⟨Try.func31, rfl, by kernel_rfl, by kernel_rfl, by kernel_rfl, by kernel_rfl⟩ rfl (loopsAt_zip (cs := [.loop (loopOf Try.f31 7)]) (by kernel_rfl) (by kernel_rfl) (by kernel_rfl) ⟨stepLim_ok mixed tabOK (Δ := [(89, mkCall ps89 rs89 F89), (90, mkCall ps90 rs90 F90)]) ⟨h89, h90, trivial⟩ hg31_7 (loopsAt_zip (Λ := []) (cs := []) (by kernel_rfl) (by kernel_rfl) (by kernel_rfl) trivial), trivial⟩)
/-! 39 bowline/bigint.DivMod -/
abbrev ps39 : List SV := [.d true tZ, .d true tZ]
abbrev rs39 : Shape := ⟨[(0, .d true tZ), (1, .d true tZ), (2, .d false tI)], []⟩
noncomputable def F39 (F52 : (SV.denL ps52) → Option (rs52).den) (F53 : (SV.denL ps53) → Option (rs53).den) (F85 : (SV.denL ps85) → Option (rs85).den) (F90 : (SV.denL ps90) → Option (rs90).den) : (SV.denL ps39) → Option (rs39).den := runFn tb [(52, mkCall ps52 rs52 F52), (53, mkCall ps53 rs53 F53), (85, mkCall ps85 rs85 F85), (90, mkCall ps90 rs90 F90)] [] Try.f39 ps39 rs39
theorem call39 {F52 : (SV.denL ps52) → Option (rs52).den} {F53 : (SV.denL ps53) → Option (rs53).den} {F85 : (SV.denL ps85) → Option (rs85).den} {F90 : (SV.denL ps90) → Option (rs90).den} (h52 : CallOK Try.prog 52 (mkCall ps52 rs52 F52)) (h53 : CallOK Try.prog 53 (mkCall ps53 rs53 F53)) (h85 : CallOK Try.prog 85 (mkCall ps85 rs85 F85)) (h90 : CallOK Try.prog 90 (mkCall ps90 rs90 F90)) : CallOK Try.prog 39 (mkCall ps39 rs39 (F39 F52 F53 F85 F90)) :=
  runFn_ok mixed tabOK (Δ := [(52, mkCall ps52 rs52 F52), (53, mkCall ps53 rs53 F53), (85, mkCall ps85 rs85 F85), (90, mkCall ps90 rs90 F90)]) ⟨h52, h53, h85, h90, trivial⟩ ⟨Try.func39, rfl, by kernel_rfl, by kernel_rfl, by kernel_rfl, by kernel_rfl⟩ rfl (loopsAt_zip (Λ := []) (cs := []) (by kernel_rfl) (by kernel_rfl) (by kernel_rfl) trivial)
/-! 45 bowline/bowlinelaw40.number -/
abbrev ps45 : List SV := [.d false tI]
abbrev rs45 : Shape := ⟨[(0, .d true tZ)], []⟩
noncomputable def F45 : (SV.denL ps45) → Option (rs45).den := runFn tb [] [] Try.f45 ps45 rs45
theorem call45 : CallOK Try.prog 45 (mkCall ps45 rs45 (F45)) :=
  runFn_ok mixed tabOK (Δ := []) trivial ⟨Try.func45, rfl, by kernel_rfl, by kernel_rfl, by kernel_rfl, by kernel_rfl⟩ rfl (loopsAt_zip (Λ := []) (cs := []) (by kernel_rfl) (by kernel_rfl) (by kernel_rfl) trivial)
/-! 62 bowline/bowlineref40.compare -/
abbrev ps62 : List SV := [.d false tN, .d false tN]
abbrev rs62 : Shape := ⟨[(0, .d false tI)], []⟩
abbrev sh62_6 : Shape := ⟨[(0, .d false tN), (1, .d false tN), (5, .d false tI)], []⟩
abbrev w62_6 : List Way := [(none, ⟨[(4, .d false tI)], []⟩), (some 0, ⟨[], []⟩)]
noncomputable def S62_6 : sh62_6.den → Option (sh62_6.den ⊕ denX w62_6) := stepFn tb [] [] (upTo 41) Try.f62 6 sh62_6 w62_6
noncomputable def F62 (g62_6 : sh62_6.den → Option (denX w62_6)) : (SV.denL ps62) → Option (rs62).den := runFn tb [] [(6, lp sh62_6 w62_6 g62_6)] Try.f62 ps62 rs62
theorem call62 {g62_6 : sh62_6.den → Option (denX w62_6)} (hg62_6 : Lim (S62_6) g62_6) : CallOK Try.prog 62 (mkCall ps62 rs62 (F62 g62_6)) :=
  runFn_ok mixed tabOK (Δ := []) trivial ⟨Try.func62, rfl, by kernel_rfl, by kernel_rfl, by kernel_rfl, by kernel_rfl⟩ rfl (loopsAt_zip (cs := [.loop (loopOf Try.f62 6)]) (by kernel_rfl) (by kernel_rfl) (by kernel_rfl) ⟨stepLim_ok mixed tabOK (Δ := []) trivial hg62_6 (loopsAt_zip (Λ := []) (cs := []) (by kernel_rfl) (by kernel_rfl) (by kernel_rfl) trivial), trivial⟩)
/-! 12 bowline/bowlineref40.Same -/
abbrev ps12 : List SV := [.d true tZ, .d true tZ]
abbrev rs12 : Shape := ⟨[(0, .d false .bool)], []⟩
noncomputable def F12 (F62 : (SV.denL ps62) → Option (rs62).den) : (SV.denL ps12) → Option (rs12).den := runFn tb [(62, mkCall ps62 rs62 F62)] [] Try.f12 ps12 rs12
theorem call12 {F62 : (SV.denL ps62) → Option (rs62).den} (h62 : CallOK Try.prog 62 (mkCall ps62 rs62 F62)) : CallOK Try.prog 12 (mkCall ps12 rs12 (F12 F62)) :=
  runFn_ok mixed tabOK (Δ := [(62, mkCall ps62 rs62 F62)]) ⟨h62, trivial⟩ ⟨Try.func12, rfl, by kernel_rfl, by kernel_rfl, by kernel_rfl, by kernel_rfl⟩ rfl (loopsAt_zip (Λ := []) (cs := []) (by kernel_rfl) (by kernel_rfl) (by kernel_rfl) trivial)
/-! 13 bowline/bowlinelaw40.told -/
abbrev ps13 : List SV := [.d true tZ]
abbrev rs13 : Shape := ⟨[(0, .d true tZ)], []⟩
noncomputable def F13 : (SV.denL ps13) → Option (rs13).den := runFn tb [] [] Try.f13 ps13 rs13
theorem call13 : CallOK Try.prog 13 (mkCall ps13 rs13 (F13)) :=
  runFn_ok mixed tabOK (Δ := []) trivial ⟨Try.func13, rfl, by kernel_rfl, by kernel_rfl, by kernel_rfl, by kernel_rfl⟩ rfl (loopsAt_zip (Λ := []) (cs := []) (by kernel_rfl) (by kernel_rfl) (by kernel_rfl) trivial)
/-! 46 bowline/bowlinelaw40.is -/
abbrev ps46 : List SV := [.d true tZ, .d false tI]
abbrev rs46 : Shape := ⟨[(0, .d false .bool)], []⟩
noncomputable def F46 (F12 : (SV.denL ps12) → Option (rs12).den) (F13 : (SV.denL ps13) → Option (rs13).den) (F45 : (SV.denL ps45) → Option (rs45).den) : (SV.denL ps46) → Option (rs46).den := runFn tb [(12, mkCall ps12 rs12 F12), (13, mkCall ps13 rs13 F13), (45, mkCall ps45 rs45 F45)] [] Try.f46 ps46 rs46
theorem call46 {F12 : (SV.denL ps12) → Option (rs12).den} {F13 : (SV.denL ps13) → Option (rs13).den} {F45 : (SV.denL ps45) → Option (rs45).den} (h12 : CallOK Try.prog 12 (mkCall ps12 rs12 F12)) (h13 : CallOK Try.prog 13 (mkCall ps13 rs13 F13)) (h45 : CallOK Try.prog 45 (mkCall ps45 rs45 F45)) : CallOK Try.prog 46 (mkCall ps46 rs46 (F46 F12 F13 F45)) :=
  runFn_ok mixed tabOK (Δ := [(12, mkCall ps12 rs12 F12), (13, mkCall ps13 rs13 F13), (45, mkCall ps45 rs45 F45)]) ⟨h12, h13, h45, trivial⟩ ⟨Try.func46, rfl, by kernel_rfl, by kernel_rfl, by kernel_rfl, by kernel_rfl⟩ rfl (loopsAt_zip (Λ := []) (cs := []) (by kernel_rfl) (by kernel_rfl) (by kernel_rfl) trivial)
/-! 9 bowline/bowlinelaw40.awake -/
abbrev ps9 : List SV := []
abbrev rs9 : Shape := ⟨[(0, .d false .bool)], []⟩
noncomputable def F9 (F11 : (SV.denL ps11) → Option (rs11).den) (F16 : (SV.denL ps16) → Option (rs16).den) (F19 : (SV.denL ps19) → Option (rs19).den) (F21 : (SV.denL ps21) → Option (rs21).den) (F25 : (SV.denL ps25) → Option (rs25).den) (F27 : (SV.denL ps27) → Option (rs27).den) (F29 : (SV.denL ps29) → Option (rs29).den) (F31 : (SV.denL ps31) → Option (rs31).den) (F39 : (SV.denL ps39) → Option (rs39).den) (F45 : (SV.denL ps45) → Option (rs45).den) (F46 : (SV.denL ps46) → Option (rs46).den) : (SV.denL ps9) → Option (rs9).den := runFn tb [(11, mkCall ps11 rs11 F11), (16, mkCall ps16 rs16 F16), (19, mkCall ps19 rs19 F19), (21, mkCall ps21 rs21 F21), (25, mkCall ps25 rs25 F25), (27, mkCall ps27 rs27 F27), (29, mkCall ps29 rs29 F29), (31, mkCall ps31 rs31 F31), (39, mkCall ps39 rs39 F39), (45, mkCall ps45 rs45 F45), (46, mkCall ps46 rs46 F46)] [] Try.f9 ps9 rs9
theorem call9 {F11 : (SV.denL ps11) → Option (rs11).den} {F16 : (SV.denL ps16) → Option (rs16).den} {F19 : (SV.denL ps19) → Option (rs19).den} {F21 : (SV.denL ps21) → Option (rs21).den} {F25 : (SV.denL ps25) → Option (rs25).den} {F27 : (SV.denL ps27) → Option (rs27).den} {F29 : (SV.denL ps29) → Option (rs29).den} {F31 : (SV.denL ps31) → Option (rs31).den} {F39 : (SV.denL ps39) → Option (rs39).den} {F45 : (SV.denL ps45) → Option (rs45).den} {F46 : (SV.denL ps46) → Option (rs46).den} (h11 : CallOK Try.prog 11 (mkCall ps11 rs11 F11)) (h16 : CallOK Try.prog 16 (mkCall ps16 rs16 F16)) (h19 : CallOK Try.prog 19 (mkCall ps19 rs19 F19)) (h21 : CallOK Try.prog 21 (mkCall ps21 rs21 F21)) (h25 : CallOK Try.prog 25 (mkCall ps25 rs25 F25)) (h27 : CallOK Try.prog 27 (mkCall ps27 rs27 F27)) (h29 : CallOK Try.prog 29 (mkCall ps29 rs29 F29)) (h31 : CallOK Try.prog 31 (mkCall ps31 rs31 F31)) (h39 : CallOK Try.prog 39 (mkCall ps39 rs39 F39)) (h45 : CallOK Try.prog 45 (mkCall ps45 rs45 F45)) (h46 : CallOK Try.prog 46 (mkCall ps46 rs46 F46)) : CallOK Try.prog 9 (mkCall ps9 rs9 (F9 F11 F16 F19 F21 F25 F27 F29 F31 F39 F45 F46)) :=
  runFn_ok mixed tabOK (Δ := [(11, mkCall ps11 rs11 F11), (16, mkCall ps16 rs16 F16), (19, mkCall ps19 rs19 F19), (21, mkCall ps21 rs21 F21), (25, mkCall ps25 rs25 F25), (27, mkCall ps27 rs27 F27), (29, mkCall ps29 rs29 F29), (31, mkCall ps31 rs31 F31), (39, mkCall ps39 rs39 F39), (45, mkCall ps45 rs45 F45), (46, mkCall ps46 rs46 F46)]) ⟨h11, h16, h19, h21, h25, h27, h29, h31, h39, h45, h46, trivial⟩ ⟨Try.func9, rfl, by kernel_rfl, by kernel_rfl, by kernel_rfl, by kernel_rfl⟩ rfl (loopsAt_zip (Λ := []) (cs := []) (by kernel_rfl) (by kernel_rfl) (by kernel_rfl) trivial)
/-! 50 bowline/bowlineref40.trimmed -/
abbrev ps50 : List SV := [.d false tN]
abbrev rs50 : Shape := ⟨[(0, .d false tN)], []⟩
abbrev sh50_2 : Shape := ⟨[(0, .d false tN), (3, .d false tI)], []⟩
abbrev w50_2 : List Way := [(some 0, sh50_2)]
noncomputable def F50 (g50_2 : sh50_2.den → Option (denX w50_2)) : (SV.denL ps50) → Option (rs50).den := runFn tb [] [(2, lp sh50_2 w50_2 g50_2)] Try.f50 ps50 rs50
/-! 51 bowline/bowlineref40.made -/
abbrev ps51 : List SV := [.d false .bool, .d false tN]
abbrev rs51 : Shape := ⟨[(0, .d true tZ), (1, .d false tI)], []⟩
noncomputable def F51 (F50 : (SV.denL ps50) → Option (rs50).den) : (SV.denL ps51) → Option (rs51).den := runFn tb [(50, mkCall ps50 rs50 F50)] [] Try.f51 ps51 rs51
/-! 48 bowline/bowlineref40.add -/
abbrev ps48 : List SV := [.d false tN, .d false tN]
abbrev rs48 : Shape := ⟨[(0, .d false tN)], []⟩
abbrev sh48_4 : Shape := ⟨[(0, .d false tN), (1, .d false tN), (5, .rf 0), (6, .d false (.int .u64)), (7, .d false tI)], [.row tU 76]⟩
abbrev w48_4 : List Way := [(some 0, ⟨[(5, .rf 0), (6, .d false (.int .u64))], [.row tU 76]⟩)]
noncomputable def F48 (F50 : (SV.denL ps50) → Option (rs50).den) (g48_4 : sh48_4.den → Option (denX w48_4)) : (SV.denL ps48) → Option (rs48).den := runFn tb [(50, mkCall ps50 rs50 F50)] [(4, lp sh48_4 w48_4 g48_4)] Try.f48 ps48 rs48
/-! 49 bowline/bowlineref40.mul -/
abbrev ps49 : List SV := [.d false tN, .d false tN]
abbrev rs49 : Shape := ⟨[(0, .d false tN)], []⟩
abbrev sh49_3 : Shape := ⟨[(0, .d false tN), (1, .d false tN), (5, .rf 0), (6, .d false tI)], [.row tU 76]⟩
abbrev w49_3 : List Way := [(some 0, ⟨[(5, .rf 0)], [.row tU 76]⟩)]
noncomputable def F49 (F50 : (SV.denL ps50) → Option (rs50).den) (g49_3 : sh49_3.den → Option (denX w49_3)) : (SV.denL ps49) → Option (rs49).den := runFn tb [(50, mkCall ps50 rs50 F50)] [(3, lp sh49_3 w49_3 g49_3)] Try.f49 ps49 rs49
/-! 14 bowline/bowlinelaw40.short -/
abbrev ps14 : List SV := [.d false tI, .d false (.sl tZ)]
abbrev rs14 : Shape := ⟨[(0, .d false .bool)], []⟩
abbrev sh14_2 : Shape := ⟨[(0, .d false tI), (7, .d false (.sl tZ)), (8, .d false tI), (9, .d false tI)], []⟩
abbrev w14_2 : List Way := [(none, ⟨[(4, .d false .bool)], []⟩), (some 0, ⟨[], []⟩)]
noncomputable def S14_2 : sh14_2.den → Option (sh14_2.den ⊕ denX w14_2) := stepFn tb [] [] (upTo 25) Try.f14 2 sh14_2 w14_2
noncomputable def F14 (g14_2 : sh14_2.den → Option (denX w14_2)) : (SV.denL ps14) → Option (rs14).den := runFn tb [] [(2, lp sh14_2 w14_2 g14_2)] Try.f14 ps14 rs14
theorem call14 {g14_2 : sh14_2.den → Option (denX w14_2)} (hg14_2 : Lim (S14_2) g14_2) : CallOK Try.prog 14 (mkCall ps14 rs14 (F14 g14_2)) :=
  runFn_ok mixed tabOK (Δ := []) trivial ⟨Try.func14, rfl, by kernel_rfl, by kernel_rfl, by kernel_rfl, by kernel_rfl⟩ rfl (loopsAt_zip (cs := [.loop (loopOf Try.f14 2)]) (by kernel_rfl) (by kernel_rfl) (by kernel_rfl) ⟨stepLim_ok mixed tabOK (Δ := []) trivial hg14_2 (loopsAt_zip (Λ := []) (cs := []) (by kernel_rfl) (by kernel_rfl) (by kernel_rfl) trivial), trivial⟩)
/-! 72 bowline/bowlineref01.When -/
abbrev ps72 : List SV := [.d false .bool, .d false tI]
abbrev rs72 : Shape := ⟨[(0, .d false tI)], []⟩
noncomputable def F72 : (SV.denL ps72) → Option (rs72).den := runFn tb [] [] Try.f72 ps72 rs72
theorem call72 : CallOK Try.prog 72 (mkCall ps72 rs72 (F72)) :=
  runFn_ok mixed tabOK (Δ := []) trivial ⟨Try.func72, rfl, by kernel_rfl, by kernel_rfl, by kernel_rfl, by kernel_rfl⟩ rfl (loopsAt_zip (Λ := []) (cs := []) (by kernel_rfl) (by kernel_rfl) (by kernel_rfl) trivial)
/-! 23 bowline/bowlineref40.Check -/
abbrev ps23 : List SV := [.d true tZ]
abbrev rs23 : Shape := ⟨[(0, .d false tI)], []⟩
noncomputable def F23 (F72 : (SV.denL ps72) → Option (rs72).den) : (SV.denL ps23) → Option (rs23).den := runFn tb [(72, mkCall ps72 rs72 F72)] [] Try.f23 ps23 rs23
theorem call23 {F72 : (SV.denL ps72) → Option (rs72).den} (h72 : CallOK Try.prog 72 (mkCall ps72 rs72 F72)) : CallOK Try.prog 23 (mkCall ps23 rs23 (F23 F72)) :=
  runFn_ok mixed tabOK (Δ := [(72, mkCall ps72 rs72 F72)]) ⟨h72, trivial⟩ ⟨Try.func23, rfl, by kernel_rfl, by kernel_rfl, by kernel_rfl, by kernel_rfl⟩ rfl (loopsAt_zip (Λ := []) (cs := []) (by kernel_rfl) (by kernel_rfl) (by kernel_rfl) trivial)
/-! 66 bowline/bowlineref40.Own -/
abbrev ps66 : List SV := [.d true tZ]
abbrev rs66 : Shape := ⟨[(0, .d true tZ)], []⟩
noncomputable def F66 : (SV.denL ps66) → Option (rs66).den := runFn tb [] [] Try.f66 ps66 rs66
theorem call66 : CallOK Try.prog 66 (mkCall ps66 rs66 (F66)) :=
  runFn_ok mixed tabOK (Δ := []) trivial ⟨Try.func66, rfl, by kernel_rfl, by kernel_rfl, by kernel_rfl, by kernel_rfl⟩ rfl (loopsAt_zip (Λ := []) (cs := []) (by kernel_rfl) (by kernel_rfl) (by kernel_rfl) trivial)
/-! 17 bowline/bowlinelaw40.handed -/
abbrev ps17 : List SV := [.d true tZ]
abbrev rs17 : Shape := ⟨[(0, .d true tZ)], []⟩
noncomputable def F17 (F66 : (SV.denL ps66) → Option (rs66).den) : (SV.denL ps17) → Option (rs17).den := runFn tb [(66, mkCall ps66 rs66 F66)] [] Try.f17 ps17 rs17
theorem call17 {F66 : (SV.denL ps66) → Option (rs66).den} (h66 : CallOK Try.prog 66 (mkCall ps66 rs66 F66)) : CallOK Try.prog 17 (mkCall ps17 rs17 (F17 F66)) :=
  runFn_ok mixed tabOK (Δ := [(66, mkCall ps66 rs66 F66)]) ⟨h66, trivial⟩ ⟨Try.func17, rfl, by kernel_rfl, by kernel_rfl, by kernel_rfl, by kernel_rfl⟩ rfl (loopsAt_zip (Λ := []) (cs := []) (by kernel_rfl) (by kernel_rfl) (by kernel_rfl) trivial)
/-! 67 bowline/bowlineref40.length -/
abbrev ps67 : List SV := [.d false tN]
abbrev rs67 : Shape := ⟨[(0, .d false tI)], []⟩
abbrev sh67_2 : Shape := ⟨[(0, .d false tN), (3, .d false tI)], []⟩
abbrev w67_2 : List Way := [(some 0, ⟨[(3, .d false tI)], []⟩)]
noncomputable def F67 (g67_2 : sh67_2.den → Option (denX w67_2)) : (SV.denL ps67) → Option (rs67).den := runFn tb [] [(2, lp sh67_2 w67_2 g67_2)] Try.f67 ps67 rs67
/-! 73 bowline/bowlineref40.power2 -/
abbrev ps73 : List SV := [.d false tI]
abbrev rs73 : Shape := ⟨[(0, .d false tN)], []⟩
noncomputable def F73 : (SV.denL ps73) → Option (rs73).den := runFn tb [] [] Try.f73 ps73 rs73
/-! 102 bowline/bowlineref40.sub -/
abbrev ps102 : List SV := [.d false tN, .d false tN]
abbrev rs102 : Shape := ⟨[(0, .d false tN)], []⟩
abbrev sh102_4 : Shape := ⟨[(0, .d false tN), (1, .d false tN), (5, .rf 0), (6, .d false tI), (7, .d false tI)], [.row tU 76]⟩
abbrev w102_4 : List Way := [(some 0, ⟨[(5, .rf 0)], [.row tU 76]⟩)]
noncomputable def F102 (F50 : (SV.denL ps50) → Option (rs50).den) (g102_4 : sh102_4.den → Option (denX w102_4)) : (SV.denL ps102) → Option (rs102).den := runFn tb [(50, mkCall ps50 rs50 F50)] [(4, lp sh102_4 w102_4 g102_4)] Try.f102 ps102 rs102
/-! 91 bowline/bowlineref40.divide -/
abbrev ps91 : List SV := [.d false tN, .d false tN]
abbrev rs91 : Shape := ⟨[(0, .d false tN), (1, .d false tN)], []⟩
abbrev sh91_4 : Shape := ⟨[(0, .d false tN), (1, .d false tN), (6, .rf 0), (7, .d false tN), (8, .d false tI)], [.row tU 76]⟩
abbrev w91_4 : List Way := [(some 0, ⟨[(6, .rf 0), (7, .d false tN)], [.row tU 76]⟩)]
noncomputable def F91 (F50 : (SV.denL ps50) → Option (rs50).den) (g91_4 : sh91_4.den → Option (denX w91_4)) : (SV.denL ps91) → Option (rs91).den := runFn tb [(50, mkCall ps50 rs50 F50)] [(4, lp sh91_4 w91_4 g91_4)] Try.f91 ps91 rs91
/-! 74 bowline/bowlineref40.floor -/
abbrev ps74 : List SV := [.d true tZ, .d true tZ]
abbrev rs74 : Shape := ⟨[(0, .d true tZ), (1, .d true tZ)], []⟩
noncomputable def F74 (F48 : (SV.denL ps48) → Option (rs48).den) (F51 : (SV.denL ps51) → Option (rs51).den) (F91 : (SV.denL ps91) → Option (rs91).den) (F102 : (SV.denL ps102) → Option (rs102).den) : (SV.denL ps74) → Option (rs74).den := runFn tb [(48, mkCall ps48 rs48 F48), (51, mkCall ps51 rs51 F51), (91, mkCall ps91 rs91 F91), (102, mkCall ps102 rs102 F102)] [] Try.f74 ps74 rs74
/-! 24 bowline/bowlineref40.Shift -/
abbrev ps24 : List SV := [.d true tZ, .d false tI]
abbrev rs24 : Shape := ⟨[(0, .d true tZ), (1, .d false tI)], []⟩
noncomputable def F24 (F23 : (SV.denL ps23) → Option (rs23).den) (F49 : (SV.denL ps49) → Option (rs49).den) (F51 : (SV.denL ps51) → Option (rs51).den) (F73 : (SV.denL ps73) → Option (rs73).den) (F74 : (SV.denL ps74) → Option (rs74).den) : (SV.denL ps24) → Option (rs24).den := runFn tb [(23, mkCall ps23 rs23 F23), (49, mkCall ps49 rs49 F49), (51, mkCall ps51 rs51 F51), (73, mkCall ps73 rs73 F73), (74, mkCall ps74 rs74 F74)] [] Try.f24 ps24 rs24
/-! 26 bowline/bowlineref40.Root -/
abbrev ps26 : List SV := [.d true tZ]
abbrev rs26 : Shape := ⟨[(0, .d true tZ), (1, .d false tI)], []⟩
abbrev sh26_8 : Shape := ⟨[(1, .pt 0 0), (2, .pt 1 0), (5, .rf 2), (6, .d false tI)], [.box [.d false .bool, .d false tN], .box [.d false .bool, .d false tN], .row tU 76]⟩
abbrev w26_8 : List Way := [(some 0, ⟨[(2, .pt 0 0), (5, .rf 1)], [.box [.d false .bool, .d false tN], .row tU 76]⟩)]
noncomputable def F26 (F23 : (SV.denL ps23) → Option (rs23).den) (F51 : (SV.denL ps51) → Option (rs51).den) (F67 : (SV.denL ps67) → Option (rs67).den) (g26_8 : sh26_8.den → Option (denX w26_8)) : (SV.denL ps26) → Option (rs26).den := runFn tb [(23, mkCall ps23 rs23 F23), (51, mkCall ps51 rs51 F51), (67, mkCall ps67 rs67 F67)] [(8, lp sh26_8 w26_8 g26_8)] Try.f26 ps26 rs26
/-! 5 bowline/bowlinelaw40.BigintShifts -/
abbrev ps5 : List SV := [.d true tZ, .d false tI]
abbrev rs5 : Shape := ⟨[(0, .d false .bool)], []⟩
noncomputable def F5 (F9 : (SV.denL ps9) → Option (rs9).den) (F12 : (SV.denL ps12) → Option (rs12).den) (F13 : (SV.denL ps13) → Option (rs13).den) (F14 : (SV.denL ps14) → Option (rs14).den) (F17 : (SV.denL ps17) → Option (rs17).den) (F24 : (SV.denL ps24) → Option (rs24).den) (F25 : (SV.denL ps25) → Option (rs25).den) (F26 : (SV.denL ps26) → Option (rs26).den) (F27 : (SV.denL ps27) → Option (rs27).den) : (SV.denL ps5) → Option (rs5).den := runFn tb [(9, mkCall ps9 rs9 F9), (12, mkCall ps12 rs12 F12), (13, mkCall ps13 rs13 F13), (14, mkCall ps14 rs14 F14), (17, mkCall ps17 rs17 F17), (24, mkCall ps24 rs24 F24), (25, mkCall ps25 rs25 F25), (26, mkCall ps26 rs26 F26), (27, mkCall ps27 rs27 F27)] [] Try.f5 ps5 rs5
/-! 33 bowline/bigint.Add -/
abbrev ps33 : List SV := [.d true tZ, .d true tZ]
abbrev rs33 : Shape := ⟨[(0, .d true tZ), (1, .d false tI)], []⟩
noncomputable def F33 (F75 : (SV.denL ps75) → Option (rs75).den) (F85 : (SV.denL ps85) → Option (rs85).den) (F87 : (SV.denL ps87) → Option (rs87).den) : (SV.denL ps33) → Option (rs33).den := runFn tb [(75, mkCall ps75 rs75 F75), (85, mkCall ps85 rs85 F85), (87, mkCall ps87 rs87 F87)] [] Try.f33 ps33 rs33
theorem call33 {F75 : (SV.denL ps75) → Option (rs75).den} {F85 : (SV.denL ps85) → Option (rs85).den} {F87 : (SV.denL ps87) → Option (rs87).den} (h75 : CallOK Try.prog 75 (mkCall ps75 rs75 F75)) (h85 : CallOK Try.prog 85 (mkCall ps85 rs85 F85)) (h87 : CallOK Try.prog 87 (mkCall ps87 rs87 F87)) : CallOK Try.prog 33 (mkCall ps33 rs33 (F33 F75 F85 F87)) :=
  runFn_ok mixed tabOK (Δ := [(75, mkCall ps75 rs75 F75), (85, mkCall ps85 rs85 F85), (87, mkCall ps87 rs87 F87)]) ⟨h75, h85, h87, trivial⟩ ⟨Try.func33, rfl, by kernel_rfl, by kernel_rfl, by kernel_rfl, by kernel_rfl⟩ rfl (loopsAt_zip (Λ := []) (cs := []) (by kernel_rfl) (by kernel_rfl) (by kernel_rfl) trivial)
/-! 35 bowline/bigint.Sub -/
abbrev ps35 : List SV := [.d true tZ, .d true tZ]
abbrev rs35 : Shape := ⟨[(0, .d true tZ), (1, .d false tI)], []⟩
noncomputable def F35 (F75 : (SV.denL ps75) → Option (rs75).den) (F85 : (SV.denL ps85) → Option (rs85).den) (F87 : (SV.denL ps87) → Option (rs87).den) (F88 : (SV.denL ps88) → Option (rs88).den) : (SV.denL ps35) → Option (rs35).den := runFn tb [(75, mkCall ps75 rs75 F75), (85, mkCall ps85 rs85 F85), (87, mkCall ps87 rs87 F87), (88, mkCall ps88 rs88 F88)] [] Try.f35 ps35 rs35
theorem call35 {F75 : (SV.denL ps75) → Option (rs75).den} {F85 : (SV.denL ps85) → Option (rs85).den} {F87 : (SV.denL ps87) → Option (rs87).den} {F88 : (SV.denL ps88) → Option (rs88).den} (h75 : CallOK Try.prog 75 (mkCall ps75 rs75 F75)) (h85 : CallOK Try.prog 85 (mkCall ps85 rs85 F85)) (h87 : CallOK Try.prog 87 (mkCall ps87 rs87 F87)) (h88 : CallOK Try.prog 88 (mkCall ps88 rs88 F88)) : CallOK Try.prog 35 (mkCall ps35 rs35 (F35 F75 F85 F87 F88)) :=
  runFn_ok mixed tabOK (Δ := [(75, mkCall ps75 rs75 F75), (85, mkCall ps85 rs85 F85), (87, mkCall ps87 rs87 F87), (88, mkCall ps88 rs88 F88)]) ⟨h75, h85, h87, h88, trivial⟩ ⟨Try.func35, rfl, by kernel_rfl, by kernel_rfl, by kernel_rfl, by kernel_rfl⟩ rfl (loopsAt_zip (Λ := []) (cs := []) (by kernel_rfl) (by kernel_rfl) (by kernel_rfl) trivial)
/-! 37 bowline/bigint.Mul -/
abbrev ps37 : List SV := [.d true tZ, .d true tZ]
abbrev rs37 : Shape := ⟨[(0, .d true tZ), (1, .d false tI)], []⟩
noncomputable def F37 (F75 : (SV.denL ps75) → Option (rs75).den) (F85 : (SV.denL ps85) → Option (rs85).den) (F89 : (SV.denL ps89) → Option (rs89).den) : (SV.denL ps37) → Option (rs37).den := runFn tb [(75, mkCall ps75 rs75 F75), (85, mkCall ps85 rs85 F85), (89, mkCall ps89 rs89 F89)] [] Try.f37 ps37 rs37
theorem call37 {F75 : (SV.denL ps75) → Option (rs75).den} {F85 : (SV.denL ps85) → Option (rs85).den} {F89 : (SV.denL ps89) → Option (rs89).den} (h75 : CallOK Try.prog 75 (mkCall ps75 rs75 F75)) (h85 : CallOK Try.prog 85 (mkCall ps85 rs85 F85)) (h89 : CallOK Try.prog 89 (mkCall ps89 rs89 F89)) : CallOK Try.prog 37 (mkCall ps37 rs37 (F37 F75 F85 F89)) :=
  runFn_ok mixed tabOK (Δ := [(75, mkCall ps75 rs75 F75), (85, mkCall ps85 rs85 F85), (89, mkCall ps89 rs89 F89)]) ⟨h75, h85, h89, trivial⟩ ⟨Try.func37, rfl, by kernel_rfl, by kernel_rfl, by kernel_rfl, by kernel_rfl⟩ rfl (loopsAt_zip (Λ := []) (cs := []) (by kernel_rfl) (by kernel_rfl) (by kernel_rfl) trivial)
/-! 41 bowline/bigint.Compare -/
abbrev ps41 : List SV := [.d true tZ, .d true tZ]
abbrev rs41 : Shape := ⟨[(0, .d false tI), (1, .d false tI)], []⟩
noncomputable def F41 (F85 : (SV.denL ps85) → Option (rs85).den) (F87 : (SV.denL ps87) → Option (rs87).den) (F88 : (SV.denL ps88) → Option (rs88).den) : (SV.denL ps41) → Option (rs41).den := runFn tb [(85, mkCall ps85 rs85 F85), (87, mkCall ps87 rs87 F87), (88, mkCall ps88 rs88 F88)] [] Try.f41 ps41 rs41
theorem call41 {F85 : (SV.denL ps85) → Option (rs85).den} {F87 : (SV.denL ps87) → Option (rs87).den} {F88 : (SV.denL ps88) → Option (rs88).den} (h85 : CallOK Try.prog 85 (mkCall ps85 rs85 F85)) (h87 : CallOK Try.prog 87 (mkCall ps87 rs87 F87)) (h88 : CallOK Try.prog 88 (mkCall ps88 rs88 F88)) : CallOK Try.prog 41 (mkCall ps41 rs41 (F41 F85 F87 F88)) :=
  runFn_ok mixed tabOK (Δ := [(85, mkCall ps85 rs85 F85), (87, mkCall ps87 rs87 F87), (88, mkCall ps88 rs88 F88)]) ⟨h85, h87, h88, trivial⟩ ⟨Try.func41, rfl, by kernel_rfl, by kernel_rfl, by kernel_rfl, by kernel_rfl⟩ rfl (loopsAt_zip (Λ := []) (cs := []) (by kernel_rfl) (by kernel_rfl) (by kernel_rfl) trivial)
/-! 42 bowline/bowlinelaw40.ring -/
abbrev ps42 : List SV := [.d true tZ, .d true tZ, .d true tZ]
abbrev rs42 : Shape := ⟨[(0, .d false .bool)], []⟩
noncomputable def F42 (F12 : (SV.denL ps12) → Option (rs12).den) (F13 : (SV.denL ps13) → Option (rs13).den) (F17 : (SV.denL ps17) → Option (rs17).den) (F33 : (SV.denL ps33) → Option (rs33).den) (F35 : (SV.denL ps35) → Option (rs35).den) (F37 : (SV.denL ps37) → Option (rs37).den) : (SV.denL ps42) → Option (rs42).den := runFn tb [(12, mkCall ps12 rs12 F12), (13, mkCall ps13 rs13 F13), (17, mkCall ps17 rs17 F17), (33, mkCall ps33 rs33 F33), (35, mkCall ps35 rs35 F35), (37, mkCall ps37 rs37 F37)] [] Try.f42 ps42 rs42
theorem call42 {F12 : (SV.denL ps12) → Option (rs12).den} {F13 : (SV.denL ps13) → Option (rs13).den} {F17 : (SV.denL ps17) → Option (rs17).den} {F33 : (SV.denL ps33) → Option (rs33).den} {F35 : (SV.denL ps35) → Option (rs35).den} {F37 : (SV.denL ps37) → Option (rs37).den} (h12 : CallOK Try.prog 12 (mkCall ps12 rs12 F12)) (h13 : CallOK Try.prog 13 (mkCall ps13 rs13 F13)) (h17 : CallOK Try.prog 17 (mkCall ps17 rs17 F17)) (h33 : CallOK Try.prog 33 (mkCall ps33 rs33 F33)) (h35 : CallOK Try.prog 35 (mkCall ps35 rs35 F35)) (h37 : CallOK Try.prog 37 (mkCall ps37 rs37 F37)) : CallOK Try.prog 42 (mkCall ps42 rs42 (F42 F12 F13 F17 F33 F35 F37)) :=
  runFn_ok mixed tabOK (Δ := [(12, mkCall ps12 rs12 F12), (13, mkCall ps13 rs13 F13), (17, mkCall ps17 rs17 F17), (33, mkCall ps33 rs33 F33), (35, mkCall ps35 rs35 F35), (37, mkCall ps37 rs37 F37)]) ⟨h12, h13, h17, h33, h35, h37, trivial⟩ ⟨Try.func42, rfl, by kernel_rfl, by kernel_rfl, by kernel_rfl, by kernel_rfl⟩ rfl (loopsAt_zip (Λ := []) (cs := []) (by kernel_rfl) (by kernel_rfl) (by kernel_rfl) trivial)
/-! 43 bowline/bowlinelaw40.divides -/
abbrev ps43 : List SV := [.d true tZ, .d true tZ]
abbrev rs43 : Shape := ⟨[(0, .d false .bool)], []⟩
noncomputable def F43 (F12 : (SV.denL ps12) → Option (rs12).den) (F13 : (SV.denL ps13) → Option (rs13).den) (F17 : (SV.denL ps17) → Option (rs17).den) (F29 : (SV.denL ps29) → Option (rs29).den) (F33 : (SV.denL ps33) → Option (rs33).den) (F37 : (SV.denL ps37) → Option (rs37).den) (F39 : (SV.denL ps39) → Option (rs39).den) : (SV.denL ps43) → Option (rs43).den := runFn tb [(12, mkCall ps12 rs12 F12), (13, mkCall ps13 rs13 F13), (17, mkCall ps17 rs17 F17), (29, mkCall ps29 rs29 F29), (33, mkCall ps33 rs33 F33), (37, mkCall ps37 rs37 F37), (39, mkCall ps39 rs39 F39)] [] Try.f43 ps43 rs43
theorem call43 {F12 : (SV.denL ps12) → Option (rs12).den} {F13 : (SV.denL ps13) → Option (rs13).den} {F17 : (SV.denL ps17) → Option (rs17).den} {F29 : (SV.denL ps29) → Option (rs29).den} {F33 : (SV.denL ps33) → Option (rs33).den} {F37 : (SV.denL ps37) → Option (rs37).den} {F39 : (SV.denL ps39) → Option (rs39).den} (h12 : CallOK Try.prog 12 (mkCall ps12 rs12 F12)) (h13 : CallOK Try.prog 13 (mkCall ps13 rs13 F13)) (h17 : CallOK Try.prog 17 (mkCall ps17 rs17 F17)) (h29 : CallOK Try.prog 29 (mkCall ps29 rs29 F29)) (h33 : CallOK Try.prog 33 (mkCall ps33 rs33 F33)) (h37 : CallOK Try.prog 37 (mkCall ps37 rs37 F37)) (h39 : CallOK Try.prog 39 (mkCall ps39 rs39 F39)) : CallOK Try.prog 43 (mkCall ps43 rs43 (F43 F12 F13 F17 F29 F33 F37 F39)) :=
  runFn_ok mixed tabOK (Δ := [(12, mkCall ps12 rs12 F12), (13, mkCall ps13 rs13 F13), (17, mkCall ps17 rs17 F17), (29, mkCall ps29 rs29 F29), (33, mkCall ps33 rs33 F33), (37, mkCall ps37 rs37 F37), (39, mkCall ps39 rs39 F39)]) ⟨h12, h13, h17, h29, h33, h37, h39, trivial⟩ ⟨Try.func43, rfl, by kernel_rfl, by kernel_rfl, by kernel_rfl, by kernel_rfl⟩ rfl (loopsAt_zip (Λ := []) (cs := []) (by kernel_rfl) (by kernel_rfl) (by kernel_rfl) trivial)
/-! 44 bowline/bowlinelaw40.powers -/
abbrev ps44 : List SV := [.d true tZ, .d true tZ, .d true tZ]
abbrev rs44 : Shape := ⟨[(0, .d false .bool)], []⟩
noncomputable def F44 (F12 : (SV.denL ps12) → Option (rs12).den) (F13 : (SV.denL ps13) → Option (rs13).den) (F17 : (SV.denL ps17) → Option (rs17).den) (F31 : (SV.denL ps31) → Option (rs31).den) (F33 : (SV.denL ps33) → Option (rs33).den) (F37 : (SV.denL ps37) → Option (rs37).den) (F39 : (SV.denL ps39) → Option (rs39).den) (F45 : (SV.denL ps45) → Option (rs45).den) : (SV.denL ps44) → Option (rs44).den := runFn tb [(12, mkCall ps12 rs12 F12), (13, mkCall ps13 rs13 F13), (17, mkCall ps17 rs17 F17), (31, mkCall ps31 rs31 F31), (33, mkCall ps33 rs33 F33), (37, mkCall ps37 rs37 F37), (39, mkCall ps39 rs39 F39), (45, mkCall ps45 rs45 F45)] [] Try.f44 ps44 rs44
theorem call44 {F12 : (SV.denL ps12) → Option (rs12).den} {F13 : (SV.denL ps13) → Option (rs13).den} {F17 : (SV.denL ps17) → Option (rs17).den} {F31 : (SV.denL ps31) → Option (rs31).den} {F33 : (SV.denL ps33) → Option (rs33).den} {F37 : (SV.denL ps37) → Option (rs37).den} {F39 : (SV.denL ps39) → Option (rs39).den} {F45 : (SV.denL ps45) → Option (rs45).den} (h12 : CallOK Try.prog 12 (mkCall ps12 rs12 F12)) (h13 : CallOK Try.prog 13 (mkCall ps13 rs13 F13)) (h17 : CallOK Try.prog 17 (mkCall ps17 rs17 F17)) (h31 : CallOK Try.prog 31 (mkCall ps31 rs31 F31)) (h33 : CallOK Try.prog 33 (mkCall ps33 rs33 F33)) (h37 : CallOK Try.prog 37 (mkCall ps37 rs37 F37)) (h39 : CallOK Try.prog 39 (mkCall ps39 rs39 F39)) (h45 : CallOK Try.prog 45 (mkCall ps45 rs45 F45)) : CallOK Try.prog 44 (mkCall ps44 rs44 (F44 F12 F13 F17 F31 F33 F37 F39 F45)) :=
  runFn_ok mixed tabOK (Δ := [(12, mkCall ps12 rs12 F12), (13, mkCall ps13 rs13 F13), (17, mkCall ps17 rs17 F17), (31, mkCall ps31 rs31 F31), (33, mkCall ps33 rs33 F33), (37, mkCall ps37 rs37 F37), (39, mkCall ps39 rs39 F39), (45, mkCall ps45 rs45 F45)]) ⟨h12, h13, h17, h31, h33, h37, h39, h45, trivial⟩ ⟨Try.func44, rfl, by kernel_rfl, by kernel_rfl, by kernel_rfl, by kernel_rfl⟩ rfl (loopsAt_zip (Λ := []) (cs := []) (by kernel_rfl) (by kernel_rfl) (by kernel_rfl) trivial)
/-! 8 bowline/bowlinelaw40.BigintLaws -/
abbrev ps8 : List SV := [.d true tZ, .d true tZ, .d true tZ]
abbrev rs8 : Shape := ⟨[(0, .d false .bool)], []⟩
noncomputable def F8 (F9 : (SV.denL ps9) → Option (rs9).den) (F11 : (SV.denL ps11) → Option (rs11).den) (F12 : (SV.denL ps12) → Option (rs12).den) (F13 : (SV.denL ps13) → Option (rs13).den) (F14 : (SV.denL ps14) → Option (rs14).den) (F16 : (SV.denL ps16) → Option (rs16).den) (F17 : (SV.denL ps17) → Option (rs17).den) (F23 : (SV.denL ps23) → Option (rs23).den) (F33 : (SV.denL ps33) → Option (rs33).den) (F37 : (SV.denL ps37) → Option (rs37).den) (F39 : (SV.denL ps39) → Option (rs39).den) (F41 : (SV.denL ps41) → Option (rs41).den) (F42 : (SV.denL ps42) → Option (rs42).den) (F43 : (SV.denL ps43) → Option (rs43).den) (F44 : (SV.denL ps44) → Option (rs44).den) : (SV.denL ps8) → Option (rs8).den := runFn tb [(9, mkCall ps9 rs9 F9), (11, mkCall ps11 rs11 F11), (12, mkCall ps12 rs12 F12), (13, mkCall ps13 rs13 F13), (14, mkCall ps14 rs14 F14), (16, mkCall ps16 rs16 F16), (17, mkCall ps17 rs17 F17), (23, mkCall ps23 rs23 F23), (33, mkCall ps33 rs33 F33), (37, mkCall ps37 rs37 F37), (39, mkCall ps39 rs39 F39), (41, mkCall ps41 rs41 F41), (42, mkCall ps42 rs42 F42), (43, mkCall ps43 rs43 F43), (44, mkCall ps44 rs44 F44)] [] Try.f8 ps8 rs8
theorem call8 {F11 : (SV.denL ps11) → Option (rs11).den} {F12 : (SV.denL ps12) → Option (rs12).den} {F13 : (SV.denL ps13) → Option (rs13).den} {F14 : (SV.denL ps14) → Option (rs14).den} {F16 : (SV.denL ps16) → Option (rs16).den} {F17 : (SV.denL ps17) → Option (rs17).den} {F23 : (SV.denL ps23) → Option (rs23).den} {F33 : (SV.denL ps33) → Option (rs33).den} {F37 : (SV.denL ps37) → Option (rs37).den} {F39 : (SV.denL ps39) → Option (rs39).den} {F41 : (SV.denL ps41) → Option (rs41).den} {F42 : (SV.denL ps42) → Option (rs42).den} {F43 : (SV.denL ps43) → Option (rs43).den} {F44 : (SV.denL ps44) → Option (rs44).den} {F9 : (SV.denL ps9) → Option (rs9).den} (h11 : CallOK Try.prog 11 (mkCall ps11 rs11 F11)) (h12 : CallOK Try.prog 12 (mkCall ps12 rs12 F12)) (h13 : CallOK Try.prog 13 (mkCall ps13 rs13 F13)) (h14 : CallOK Try.prog 14 (mkCall ps14 rs14 F14)) (h16 : CallOK Try.prog 16 (mkCall ps16 rs16 F16)) (h17 : CallOK Try.prog 17 (mkCall ps17 rs17 F17)) (h23 : CallOK Try.prog 23 (mkCall ps23 rs23 F23)) (h33 : CallOK Try.prog 33 (mkCall ps33 rs33 F33)) (h37 : CallOK Try.prog 37 (mkCall ps37 rs37 F37)) (h39 : CallOK Try.prog 39 (mkCall ps39 rs39 F39)) (h41 : CallOK Try.prog 41 (mkCall ps41 rs41 F41)) (h42 : CallOK Try.prog 42 (mkCall ps42 rs42 F42)) (h43 : CallOK Try.prog 43 (mkCall ps43 rs43 F43)) (h44 : CallOK Try.prog 44 (mkCall ps44 rs44 F44)) (h9 : CallOK Try.prog 9 (mkCall ps9 rs9 F9)) : CallOK Try.prog 8 (mkCall ps8 rs8 (F8 F9 F11 F12 F13 F14 F16 F17 F23 F33 F37 F39 F41 F42 F43 F44)) :=
  runFn_ok mixed tabOK (Δ := [(9, mkCall ps9 rs9 F9), (11, mkCall ps11 rs11 F11), (12, mkCall ps12 rs12 F12), (13, mkCall ps13 rs13 F13), (14, mkCall ps14 rs14 F14), (16, mkCall ps16 rs16 F16), (17, mkCall ps17 rs17 F17), (23, mkCall ps23 rs23 F23), (33, mkCall ps33 rs33 F33), (37, mkCall ps37 rs37 F37), (39, mkCall ps39 rs39 F39), (41, mkCall ps41 rs41 F41), (42, mkCall ps42 rs42 F42), (43, mkCall ps43 rs43 F43), (44, mkCall ps44 rs44 F44)]) ⟨h9, h11, h12, h13, h14, h16, h17, h23, h33, h37, h39, h41, h42, h43, h44, trivial⟩ ⟨Try.func8, rfl, by kernel_rfl, by kernel_rfl, by kernel_rfl, by kernel_rfl⟩ rfl (loopsAt_zip (Λ := []) (cs := []) (by kernel_rfl) (by kernel_rfl) (by kernel_rfl) trivial)
end Go.Proofs.Rf
/- The functions, evaluated. -/
set_option linter.unusedVariables false
namespace Go.Proofs.Rf
open Go Go.RowKit
theorem S52_2_eq (t5 : List Int) (t6 : Int) (t7 : Int) : S52_2 ((t5, t6, t7, ()), ()) = (
  if decide (t7 < t6) = true then
    if 0 ≤ t7 then
      if t7 < (↑t5.length : Int) then
        if (!t5.getD t7.toNat 0 == 0) = true then some (Sum.inr (Sum.inl ((t5.getD t7.toNat 0, ()), ())))
        else some (Sum.inl ((t5, t6, IntKind.i64.wrap (t7 + 1), ()), ()))
      else none
    else none
  else some (Sum.inr (Sum.inr ((), ()))) : Option (sh52_2.den ⊕ denX w52_2)) := by kernel_rfl
theorem F52_eq (g52_2 : sh52_2.den → Option (denX w52_2)) (l0 : List Int) : F52 g52_2 (l0, ()) = (
  (g52_2 ((l0, (↑l0.length : Int), 0, ()), ())).bind fun y =>
    Sum.elim (fun y => some ((y.1.1, ()), ())) (fun z => some ((0, ()), ())) y : Option rs52.den) := by kernel_rfl
theorem F53_eq (is0 : Bool) (e1 : Int) : F53 (is0, e1, ()) = (
  if is0 = true then some ((e1, ()), ()) else some ((0, ()), ()) : Option rs53.den) := by kernel_rfl
theorem F54_eq (n0 : Int) : F54 (n0, ()) = (
  if decide (n0 ≥ 2) = true then some ((decide (n0 ≤ 36), ()), ()) else some ((false, ()), ()) : Option rs54.den) := by kernel_rfl
theorem F112_eq (s0 : List UInt8) (prefix1 : List UInt8) : F112 (s0, prefix1, ()) = (
  if decide ((↑s0.length : Int) ≥ (↑prefix1.length : Int)) = true then
    if (↑prefix1.length : Int) ≤ (↑s0.length : Int) then
      some ((List.take (↑prefix1.length : Int).toNat s0 == prefix1, ()), ())
    else none
  else some ((false, ()), ()) : Option rs112.den) := by kernel_rfl
theorem F95_eq (F112 : (SV.denL ps112) → Option (rs112).den) (s0 : List UInt8) (prefix1 : List UInt8) : F95 F112 (s0, prefix1, ()) = (
  (F112 (s0, prefix1, ())).bind fun y =>
    if y.1.1 = true then
      if (↑prefix1.length : Int) ≤ (↑s0.length : Int) then
        if (↑s0.length : Int) ≤ (↑s0.length : Int) then some ((List.drop (↑prefix1.length : Int).toNat s0, ()), ())
        else none
      else none
    else some ((s0, ()), ()) : Option rs95.den) := by kernel_rfl
theorem F56_eq (F95 : (SV.denL ps95) → Option (rs95).den) (s0 : List UInt8) (prefix1 : List UInt8) : F56 F95 (s0, prefix1, ()) = (
  (F95 (s0, prefix1, ())).bind fun y => some ((y.1.1, ()), ()) : Option rs56.den) := by kernel_rfl
theorem F60_eq (c0 : Int) : F60 (c0, ()) = (
  if decide (c0 ≥ 48) = true then
    if decide (c0 ≤ 57) = true then some ((IntKind.i64.wrap (IntKind.i32.wrap (c0 - 48)), ()), ())
    else
      if decide (c0 ≥ 97) = true then
        if decide (c0 ≤ 122) = true then
          some ((IntKind.i64.wrap (IntKind.i64.wrap (IntKind.i32.wrap (c0 - 97)) + 10), ()), ())
        else some ((99, ()), ())
      else some ((99, ()), ())
  else
    if decide (c0 ≥ 97) = true then
      if decide (c0 ≤ 122) = true then
        some ((IntKind.i64.wrap (IntKind.i64.wrap (IntKind.i32.wrap (c0 - 97)) + 10), ()), ())
      else some ((99, ()), ())
    else some ((99, ()), ()) : Option rs60.den) := by kernel_rfl
theorem S55_5_eq (F60 : (SV.denL ps60) → Option (rs60).den) (base1 : Int) (it0s : List UInt8) (it0p : Nat) : S55_5 F60 ((base1, (), ()), ((it0s, it0p), ())) = (
  if it0p < it0s.length then
    (F60 ((↑(Utf8.decode { data := { toList := it0s } } it0p).1 : Int), ())).bind fun y =>
      if decide (y.1.1 ≥ base1) = true then some (Sum.inr (Sum.inl ((false, ()), ())))
      else some (Sum.inl ((base1, (), ()), (it0s, it0p + (Utf8.decode { data := { toList := it0s } } it0p).2), ()))
  else some (Sum.inr (Sum.inr ((), ()))) : Option (sh55_5.den ⊕ denX w55_5)) := by kernel_rfl
theorem F55_eq (F56 : (SV.denL ps56) → Option (rs56).den) (g55_5 : sh55_5.den → Option (denX w55_5)) (s0 : List UInt8) (base1 : Int) : F55 F56 g55_5 (s0, base1, ()) = (
  (F56 (s0, [(45 : UInt8)], ())).bind fun y =>
    if (y.1.1 == []) = true then some ((false, ()), ())
    else
      if (s0 == [(45 : UInt8), (48 : UInt8)]) = true then
        some ((false, ()), ())
      else
        if decide ((↑(List.length y.1.1) : Int) > 1) = true then
          if 0 < (↑(List.length y.1.1) : Int) then
            if ((↑(List.getD y.1.1 0 (0 : UInt8)).toNat : Int) == 48) = true then
              some ((false, ()), ())
            else
              (g55_5 ((base1, (), ()), (y.1.1, 0), ())).bind fun y =>
                Sum.elim (fun y => some ((y.1.1, ()), ())) (fun z => some ((true, ()), ())) y
          else none
        else
          (g55_5 ((base1, (), ()), (y.1.1, 0), ())).bind fun y =>
            Sum.elim (fun y => some ((y.1.1, ()), ())) (fun z => some ((true, ()), ())) y : Option rs55.den) := by kernel_rfl
theorem F61_eq (F97 : (SV.denL ps97) → Option (rs97).den) (neg0 : Bool) (a1 : List Int) : F61 F97 (neg0, a1, ()) = (
  if neg0 = true then (F97 (a1, ())).bind fun y => some (((decide ((↑a1.length : Int) > 0), y.1.1), ()), ())
  else (F97 (a1, ())).bind fun y => some (((false, y.1.1), ()), ()) : Option rs61.den) := by kernel_rfl
theorem S96_2_eq (a0 : List Int) (n3 : Int) : S96_2 ((a0, n3, ()), ()) = (
  if decide (n3 > 0) = true then
    if 0 ≤ IntKind.i64.wrap (n3 - 1) then
      if IntKind.i64.wrap (n3 - 1) < (↑a0.length : Int) then
        if (a0.getD (IntKind.i64.wrap (n3 - 1)).toNat 0 == 0) = true then
          some (Sum.inl ((a0, IntKind.i64.wrap (n3 - 1), ()), ()))
        else some (Sum.inr ((a0, n3, ()), ()))
      else none
    else none
  else some (Sum.inr ((a0, n3, ()), ())) : Option (sh96_2.den ⊕ denX w96_2)) := by kernel_rfl
theorem F96_eq (g96_2 : sh96_2.den → Option (denX w96_2)) (a0 : List Int) : F96 g96_2 (a0, ()) = (
  (g96_2 ((a0, (↑a0.length : Int), ()), ())).bind fun y =>
    if 0 ≤ y.1.2.1 then
      if y.1.2.1 ≤ (↑(List.length y.1.1) : Int) then some ((List.take (Int.toNat y.1.2.1) y.1.1, ()), ()) else none
    else none : Option rs96.den) := by kernel_rfl
theorem S57_7_eq (b1 : List Int) (i6 : Int) (x7 : Int) (carry8 : Int) (t18 : List Int) (t19 : Int) (t20 : Int) (t25 : List Int) (t26 : Int) (t27 : Int) (r0 : List Int) : S57_7 ((b1, (), i6, x7, carry8, t18, t19, t20, t25, t26, t27, ()), (r0, ())) = (
  if decide (t27 < t26) = true then
    if 0 ≤ t27 then
      if t27 < (↑t25.length : Int) then
        if 0 ≤ IntKind.i64.wrap (i6 + t27) then
          if IntKind.i64.wrap (i6 + t27) < (↑r0.length : Int) then
            if 0 ≤ IntKind.i64.wrap (i6 + t27) then
              if IntKind.i64.wrap (i6 + t27) < (↑r0.length : Int) then
                some
                  (Sum.inl
                    ((b1, (), i6, x7,
                        (IntKind.u64.wrap
                              (IntKind.u64.wrap
                                  (IntKind.u64.wrap (IntKind.u64.wrap x7 * IntKind.u64.wrap (t25.getD t27.toNat 0)) +
                                    IntKind.u64.wrap (r0.getD (IntKind.i64.wrap (i6 + t27)).toNat 0)) +
                                carry8)).fdiv
                          (2 ^ 32),
                        t18, t19, t20, t25, t26, IntKind.i64.wrap (t27 + 1), ()),
                      r0.set (IntKind.i64.wrap (i6 + t27)).toNat
                        (IntKind.u32.wrap
                          (IntKind.u64.wrap
                            (IntKind.u64.wrap
                                (IntKind.u64.wrap (IntKind.u64.wrap x7 * IntKind.u64.wrap (t25.getD t27.toNat 0)) +
                                  IntKind.u64.wrap (r0.getD (IntKind.i64.wrap (i6 + t27)).toNat 0)) +
                              carry8))),
                      ()))
              else none
            else none
          else none
        else none
      else none
    else none
  else some (Sum.inr ((b1, (), i6, carry8, t18, t19, t20, ()), r0, ())) : Option (sh57_7.den ⊕ denX w57_7)) := by kernel_rfl
theorem S57_3_eq (g57_7 : sh57_7.den → Option (denX w57_7)) (b1 : List Int) (t18 : List Int) (t19 : Int) (t20 : Int) (r0 : List Int) : S57_3 g57_7 ((b1, (), t18, t19, t20, ()), (r0, ())) = (
  if decide (t20 < t19) = true then
    if 0 ≤ t20 then
      if t20 < (↑t18.length : Int) then
        (g57_7 ((b1, (), t20, t18.getD t20.toNat 0, 0, t18, t19, t20, b1, (↑b1.length : Int), 0, ()), r0, ())).bind
          fun y =>
          if 0 ≤ IntKind.i64.wrap (y.1.2.2.1 + (↑(List.length y.1.1) : Int)) then
            if IntKind.i64.wrap (y.1.2.2.1 + (↑(List.length y.1.1) : Int)) < (↑(List.length y.2.1) : Int) then
              if 0 ≤ IntKind.i64.wrap (y.1.2.2.1 + (↑(List.length y.1.1) : Int)) then
                if IntKind.i64.wrap (y.1.2.2.1 + (↑(List.length y.1.1) : Int)) < (↑(List.length y.2.1) : Int) then
                  some
                    (Sum.inl
                      ((y.1.1, (), y.1.2.2.2.2.1, y.1.2.2.2.2.2.1, IntKind.i64.wrap (y.1.2.2.2.2.2.2.1 + 1), ()),
                        List.set y.2.1 (IntKind.i64.wrap (y.1.2.2.1 + (↑(List.length y.1.1) : Int))).toNat
                          (IntKind.u32.wrap
                            (List.getD y.2.1 (IntKind.i64.wrap (y.1.2.2.1 + (↑(List.length y.1.1) : Int))).toNat 0 +
                              IntKind.u32.wrap y.1.2.2.2.1)),
                        ()))
                else none
              else none
            else none
          else none
      else none
    else none
  else some (Sum.inr (((), ()), r0, ())) : Option (sh57_3.den ⊕ denX w57_3)) := by kernel_rfl
theorem F57_eq (F96 : (SV.denL ps96) → Option (rs96).den) (g57_3 : sh57_3.den → Option (denX w57_3)) (a0 : List Int) (b1 : List Int) : F57 F96 g57_3 (a0, b1, ()) = (
  if 0 ≤ IntKind.i64.wrap ((↑a0.length : Int) + (↑b1.length : Int)) then
    if
        IntKind.i64.wrap ((↑a0.length : Int) + (↑b1.length : Int)) ≤
          IntKind.i64.wrap ((↑a0.length : Int) + (↑b1.length : Int)) then
      if IntKind.i64.wrap ((↑a0.length : Int) + (↑b1.length : Int)) ≤ ((4294967296 : Nat) : Int) then
        (g57_3
              ((b1, (), a0, (↑a0.length : Int), 0, ()),
                List.replicate (IntKind.i64.wrap ((↑a0.length : Int) + (↑b1.length : Int))).toNat 0, ())).bind
          fun y => (F96 (y.2.1, ())).bind fun y => some ((y.1.1, ()), ())
      else none
    else none
  else none : Option rs57.den) := by kernel_rfl
theorem F58_eq (F96 : (SV.denL ps96) → Option (rs96).den) (n0 : Int) : F58 F96 (n0, ()) = (
  (F96 ([n0], ())).bind fun y => some ((y.1.1, ()), ()) : Option rs58.den) := by kernel_rfl
theorem F71_eq (a0 : List Int) (i1 : Int) : F71 (a0, i1, ()) = (
  if decide (i1 < (↑a0.length : Int)) = true then
    if 0 ≤ i1 then if i1 < (↑a0.length : Int) then some ((a0.getD i1.toNat 0, ()), ()) else none else none
  else some ((0, ()), ()) : Option rs71.den) := by kernel_rfl
theorem S59_4_eq (F71 : (SV.denL ps71) → Option (rs71).den) (a0 : List Int) (b1 : List Int) (carry6 : Int) (t17 : Int) (t18 : Int) (r0 : List Int) : S59_4 F71 ((a0, b1, (), carry6, t17, t18, ()), (r0, ())) = (
  if decide (t18 < t17) = true then
    (F71 (a0, t18, ())).bind fun y =>
      (F71 (b1, t18, ())).bind fun y_1 =>
        if 0 ≤ t18 then
          if t18 < (↑r0.length : Int) then
            some
              (Sum.inl
                ((a0, b1, (),
                    (IntKind.u64.wrap
                          (IntKind.u64.wrap (IntKind.u64.wrap y.1.1 + IntKind.u64.wrap y_1.1.1) + carry6)).fdiv
                      (2 ^ 32),
                    t17, IntKind.i64.wrap (t18 + 1), ()),
                  r0.set t18.toNat
                    (IntKind.u32.wrap
                      (IntKind.u64.wrap (IntKind.u64.wrap (IntKind.u64.wrap y.1.1 + IntKind.u64.wrap y_1.1.1) + carry6))),
                  ()))
          else none
        else none
  else some (Sum.inr (((), ()), r0, ())) : Option (sh59_4.den ⊕ denX w59_4)) := by kernel_rfl
theorem F59_eq (F96 : (SV.denL ps96) → Option (rs96).den) (g59_4 : sh59_4.den → Option (denX w59_4)) (a0 : List Int) (b1 : List Int) : F59 F96 g59_4 (a0, b1, ()) = (
  if 0 ≤ IntKind.i64.wrap (imax (↑a0.length : Int) (↑b1.length : Int) + 1) then
    if
        IntKind.i64.wrap (imax (↑a0.length : Int) (↑b1.length : Int) + 1) ≤
          IntKind.i64.wrap (imax (↑a0.length : Int) (↑b1.length : Int) + 1) then
      if IntKind.i64.wrap (imax (↑a0.length : Int) (↑b1.length : Int) + 1) ≤ ((4294967296 : Nat) : Int) then
        (g59_4
              ((a0, b1, (), 0,
                  (↑(List.replicate (IntKind.i64.wrap (imax (↑a0.length : Int) (↑b1.length : Int) + 1)).toNat (0 : Int)).length :
                    Int),
                  0, ()),
                List.replicate (IntKind.i64.wrap (imax (↑a0.length : Int) (↑b1.length : Int) + 1)).toNat 0, ())).bind
          fun y => (F96 (y.2.1, ())).bind fun y => some ((y.1.1, ()), ())
      else none
    else none
  else none : Option rs59.den) := by kernel_rfl
theorem S11_8_eq (F57 : (SV.denL ps57) → Option (rs57).den) (F58 : (SV.denL ps58) → Option (rs58).den) (F59 : (SV.denL ps59) → Option (rs59).den) (F60 : (SV.denL ps60) → Option (rs60).den) (s0 : List UInt8) (base1 : Int) (a7 : List Int) (b0_0 : Bool) (b0_1 : List Int) (it1s : List UInt8) (it1p : Nat) : S11_8 F57 F58 F59 F60 ((s0, base1, (), a7, (), ()), ((b0_0, b0_1, ()), (it1s, it1p), ())) = (
  if it1p < it1s.length then
    (F58 (IntKind.u32.wrap base1, ())).bind fun y =>
      (F57 (a7, y.1.1, ())).bind fun y =>
        (F60 ((↑(Utf8.decode { data := { toList := it1s } } it1p).1 : Int), ())).bind fun y_1 =>
          (F58 (IntKind.u32.wrap y_1.1.1, ())).bind fun y_2 =>
            (F59 (y.1.1, y_2.1.1, ())).bind fun y =>
              if decide ((↑(List.length y.1.1) : Int) > 200) = true then
                some (Sum.inr (Sum.inl (((), 4, ()), (false, [], ()), ())))
              else
                some
                  (Sum.inl
                    ((s0, base1, (), y.1.1, (), ()), (b0_0, b0_1, ()),
                      (it1s, it1p + (Utf8.decode { data := { toList := it1s } } it1p).2), ()))
  else some (Sum.inr (Sum.inr ((s0, (), a7, ()), (b0_0, b0_1, ()), ()))) : Option (sh11_8.den ⊕ denX w11_8)) := by kernel_rfl
theorem F11_eq (F52 : (SV.denL ps52) → Option (rs52).den) (F53 : (SV.denL ps53) → Option (rs53).den) (F54 : (SV.denL ps54) → Option (rs54).den) (F55 : (SV.denL ps55) → Option (rs55).den) (F56 : (SV.denL ps56) → Option (rs56).den) (F61 : (SV.denL ps61) → Option (rs61).den) (g11_8 : sh11_8.den → Option (denX w11_8)) (s0 : List UInt8) (base1 : Int) : F11 F52 F53 F54 F55 F56 F61 g11_8 (s0, base1, ()) = (
  (F54 (base1, ())).bind fun y =>
    (F53 (!y.1.1, 3, ())).bind fun y =>
      (F53 (decide ((↑s0.length : Int) > 7000), 20, ())).bind fun y_1 =>
        (F52 ([y.1.1, y_1.1.1], ())).bind fun y =>
          if (!y.1.1 == 0) = true then some (((false, []), y.1.1, ()), ())
          else
            (F55 (s0, base1, ())).bind fun y =>
              if (!y.1.1) = true then some (((false, []), 19, ()), ())
              else
                (F56 (s0, [(45 : UInt8)], ())).bind fun y =>
                  (g11_8 ((s0, base1, (), [], (), ()), (false, [], ()), (y.1.1, 0), ())).bind fun y =>
                    Sum.elim (fun y => some (((y.2.1.1, y.2.1.2.1), y.1.2.1, ()), ()))
                      (fun z =>
                        if 0 < (↑(List.length z.1.1) : Int) then
                          (F61
                                ((↑(List.getD z.1.1 0 (0 : UInt8)).toNat : Int) == 45, z.1.2.2.1,
                                  ())).bind
                            fun y => some (((y.1.1.1, y.1.1.2), 0, ()), ())
                        else none)
                      y : Option rs11.den) := by kernel_rfl
theorem S62_6_eq (a0 : List Int) (b1 : List Int) (i5 : Int) : S62_6 ((a0, b1, i5, ()), ()) = (
  if decide (i5 ≥ 0) = true then
    if 0 ≤ i5 then
      if i5 < (↑a0.length : Int) then
        if 0 ≤ i5 then
          if i5 < (↑b1.length : Int) then
            if decide (a0.getD i5.toNat 0 < b1.getD i5.toNat 0) = true then some (Sum.inr (Sum.inl ((-1, ()), ())))
            else
              if 0 ≤ i5 then
                if i5 < (↑a0.length : Int) then
                  if 0 ≤ i5 then
                    if i5 < (↑b1.length : Int) then
                      if decide (a0.getD i5.toNat 0 > b1.getD i5.toNat 0) = true then
                        some (Sum.inr (Sum.inl ((1, ()), ())))
                      else some (Sum.inl ((a0, b1, IntKind.i64.wrap (i5 - 1), ()), ()))
                    else none
                  else none
                else none
              else none
          else none
        else none
      else none
    else none
  else some (Sum.inr (Sum.inr ((), ()))) : Option (sh62_6.den ⊕ denX w62_6)) := by kernel_rfl
theorem F62_eq (g62_6 : sh62_6.den → Option (denX w62_6)) (a0 : List Int) (b1 : List Int) : F62 g62_6 (a0, b1, ()) = (
  if (!(↑a0.length : Int) == (↑b1.length : Int)) = true then
    if decide ((↑a0.length : Int) < (↑b1.length : Int)) = true then some ((-1, ()), ()) else some ((1, ()), ())
  else
    (g62_6 ((a0, b1, IntKind.i64.wrap ((↑a0.length : Int) - 1), ()), ())).bind fun y =>
      Sum.elim (fun y => some ((y.1.1, ()), ())) (fun z => some ((0, ()), ())) y : Option rs62.den) := by kernel_rfl
theorem F12_eq (F62 : (SV.denL ps62) → Option (rs62).den) (a0_0 : Bool) (a0_1 : List Int) (b1_0 : Bool) (b1_1 : List Int) : F12 F62 ((a0_0, a0_1), (b1_0, b1_1), ()) = (
  if (a0_0 == b1_0) = true then
    (F62 (a0_1, b1_1, ())).bind fun y =>
      if (y.1.1 == 0) = true then some (((↑a0_1.length : Int) == (↑b1_1.length : Int), ()), ())
      else some ((false, ()), ())
  else some ((false, ()), ()) : Option rs12.den) := by kernel_rfl
theorem F13_eq (a0_0 : Bool) (a0_1 : List Int) : F13 ((a0_0, a0_1), ()) = (
  some (((a0_0, a0_1), ()), ()) : Option rs13.den) := by kernel_rfl
end Go.Proofs.Rf
/- What the functions on limbs come to: sums and products, in both texts. -/
namespace Go.Proofs.Rf
open Go

/-- Lengths of lists that are dealt with. -/
def Sm (l : List Int) : Prop := l.length < 1000000000

theorem F96_spec {l : List Int} (hw : Wf l) (hl : l.length < 4611686018427387904) : F96 (limL S96_2) (l, ()) = some ((lim (val l).toNat, ()), ()) := by
  obtain ⟨n, h1, h2, h3, h4⟩ := trim_loop S96_2_eq l hl
  rw [F96_eq, h1]
  show (if 0 ≤ (n : Int) then if (n : Int) ≤ (l.length : Int) then some ((List.take ((n : Int).toNat) l, ()), ()) else none else none) = _
  rw [if_pos (by omega), if_pos (by omega), Int.toNat_natCast, take_lim hw h2 h3 h4]

theorem List.take_set_succ_aux {r : List Int} {i : Nat} {v : Int} (h : i < r.length) : (r.set i v).take (i + 1) = r.take i ++ [v] := by
  rw [List.take_succ_eq_append_getElem (by simpa using h), List.take_set, List.set_eq_of_length_le (by simp; omega)]
  simp

theorem powB_mono {i j : Nat} (h : i ≤ j) : (4294967296 : Int) ^ i ≤ 4294967296 ^ j := by
  induction h with
  | refl => exact Int.le_refl _
  | step h ih =>
    rename_i m
    have := powB_pos m
    rw [powB]
    omega

/-! ### The program's sum -/
theorem F71_spec {a : List Int} (i : Nat) : F71 (a, (i : Int), ()) = some ((a.getD i 0, ()), ()) := by
  rw [F71_eq]
  simp only [decide_eq_true_eq, Int.ofNat_lt, Int.toNat_natCast]
  by_cases h : i < a.length
  · simp only [h, if_true, show (0 : Int) ≤ (i : Int) by omega]
  · simp only [h, if_false, getD_big (show a.length ≤ i by omega)]

theorem S59_step {a b r : List Int} {c : Int} {i m : Nat} (wa : Wf a) (wb : Wf b) (hc : 0 ≤ c) (hc1 : c ≤ 1) (hr : r.length = m) (hi : i < m) (hb : m < 2000000000) :
    S59_4 F71 ((a, b, (), c, (m : Int), (i : Int), ()), (r, ())) = some (.inl ((a, b, (), (c + a.getD i 0 + b.getD i 0) / 4294967296, (m : Int), ((i + 1 : Nat) : Int), ()), (r.set i ((c + a.getD i 0 + b.getD i 0) % 4294967296), ()))) := by
  have xa := wa.getD i
  have xb := wb.getD i
  rw [S59_4_eq]
  have q1 := F71_spec (a := a) i
  have q2 := F71_spec (a := b) i
  rw [q1, q2]
  simp only [Option.bind_some, decide_eq_true_eq, Int.ofNat_lt, Int.toNat_natCast]
  generalize a.getD i 0 = A at *
  generalize b.getD i 0 = B at *
  have e1 : IntKind.u64.wrap A = A := w64 (by omega) (by omega)
  have e2 : IntKind.u64.wrap B = B := w64 (by omega) (by omega)
  have e3 : IntKind.u64.wrap (A + B) = A + B := w64 (by omega) (by omega)
  have e4 : IntKind.u64.wrap (A + B + c) = A + B + c := w64 (by omega) (by omega)
  have e6 : IntKind.i64.wrap ((i : Int) + 1) = ((i + 1 : Nat) : Int) := by rw [wi (by omega) (by omega)]; omega
  have f1 : (A + B + c).fdiv (2 ^ 32) = (A + B + c) / 4294967296 := by rw [Int.fdiv_eq_ediv_of_nonneg _ (by decide)]; rfl
  have e7 : A + B + c = c + A + B := by omega
  rw [if_pos hi, if_pos (show (0 : Int) ≤ (i : Int) by omega), if_pos (show i < r.length by omega), e1, e2, e3, e4, f1, w32m, e6, e7]

theorem F59_spec {a b : List Int} (wa : Wf a) (wb : Wf b) (sa : Sm a) (sb : Sm b) : F59 (F96 (limL S96_2)) (limL (S59_4 F71)) (a, b, ()) = some ((lim (val a + val b).toNat, ()), ()) := by
  unfold Sm at sa sb
  obtain ⟨m, hm⟩ : ∃ m, m = max a.length b.length + 1 := ⟨_, rfl⟩
  obtain ⟨z, h1, r, rfl, hw, hlen, hv⟩ := limL_ind (f := S59_4 F71) (fun x => m - x.1.2.2.2.2.2.1.toNat)
    (fun x => ∃ (c : Int) (i : Nat) (r : List Int), x = ((a, b, (), c, (m : Int), (i : Int), ()), (r, ())) ∧ r.length = m ∧ Wf r ∧ 0 ≤ c ∧ c ≤ 1 ∧ i ≤ m ∧ val (r.take i) + 4294967296 ^ i * c = val (a.take i) + val (b.take i))
    (fun z => ∃ r : List Int, z = (((), ()), (r, ())) ∧ Wf r ∧ r.length = m ∧ val r = val a + val b) (by
    rintro x ⟨c, i, r, rfl, hr, hw, hc, hc1, hi, hv⟩
    by_cases hd : i < m
    · left
      have xa := wa.getD i
      have xb := wb.getD i
      refine ⟨_, S59_step wa wb hc hc1 hr hd (by omega), ⟨_, i + 1, _, rfl, by simp [hr], ?_, by omega, by omega, by omega, ?_⟩, ?_⟩
      · exact hw.set i (by omega) (by omega)
      · rw [List.take_set_succ_aux, val_append, val_take_succ, val_take_succ, powB]
        · have := add_limb (P := 4294967296 ^ i) (V := val (r.take i)) (s := c + a.getD i 0 + b.getD i 0) rfl
          simp only [val, List.length_take, Nat.min_eq_left (show i ≤ r.length by omega)]
          grind
        · omega
      · simp only [Int.toNat_natCast]; omega
    · right
      have him : i = m := by omega
      subst him
      refine ⟨(((), ()), (r, ())), ?_, r, rfl, hw, hr, ?_⟩
      · rw [S59_4_eq]
        simp only [decide_eq_true_eq, Int.ofNat_lt, hd, if_false]
      · rw [List.take_of_length_le (by omega), val_take_all (by omega), val_take_all (by omega)] at hv
        have l1 := val_lt wa
        have l2 := val_lt wb
        have l3 := val_nonneg hw
        have p1 : (4294967296 : Int) ^ a.length ≤ 4294967296 ^ max a.length b.length := powB_mono (by omega)
        have p2 : (4294967296 : Int) ^ b.length ≤ 4294967296 ^ max a.length b.length := powB_mono (by omega)
        have p3 := powB_pos (max a.length b.length)
        have p4 : (4294967296 : Int) ^ i = 4294967296 ^ max a.length b.length * 4294967296 := by rw [hm, powB]
        have hc0 : c = 0 := by
          rcases Int.lt_or_le 0 c with q | q
          · have : c = 1 := by omega
            subst this
            rw [p4] at hv
            omega
          · omega
        rw [hc0] at hv
        omega) ((a, b, (), 0, (m : Int), ((0 : Nat) : Int), ()), (List.replicate m 0, ())) ⟨0, 0, _, rfl, by simp, Wf.replicate m, by omega, by omega, by omega, by simp [val]⟩
  have hmx : imax (a.length : Int) (b.length : Int) + 1 = (m : Int) := by unfold imax; split <;> omega
  have hwm : IntKind.i64.wrap (m : Int) = (m : Int) := wi (by omega) (by omega)
  rw [F59_eq]
  simp only [hmx, hwm, Int.toNat_natCast, List.length_replicate]
  rw [if_pos (by omega), if_pos (by omega), if_pos (by omega)]
  rw [show limL (S59_4 F71) ((a, b, (), 0, (m : Int), 0, ()), List.replicate m 0, ()) = _ from h1]
  show ((F96 (limL S96_2) (r, ())).bind fun y => some ((y.1.1, ()), ())) = _
  rw [F96_spec hw (by omega), hv]
  rfl
end Go.Proofs.Rf
/- What the functions on limbs come to: products, in both texts. -/
namespace Go.Proofs.Rf
open Go

theorem getD_set {r : List Int} {i k : Nat} {v : Int} : (r.set i v).getD k 0 = if i = k ∧ i < r.length then v else r.getD k 0 := by
  simp only [List.getD_eq_getElem?_getD, List.getElem?_set]
  split
  · rename_i h
    subst h
    split
    · rename_i h; simp [h]
    · rename_i h; simp [h]
  · rename_i h; simp [h]

/-- What the inner loop does: x times b is added from place i on. -/
structure InnerOK (b r : List Int) (i : Nat) (x : Int) (k : Nat) (c : Int) (r' : List Int) : Prop where
  len : r'.length = r.length
  wf : Wf r'
  c0 : 0 ≤ c
  c1 : c < 4294967296
  vl : val r' + 4294967296 ^ (i + k) * c = val r + 4294967296 ^ i * (x * val (b.take k))
  hi : ∀ j, i + k ≤ j → r'.getD j 0 = r.getD j 0

theorem InnerOK.zero {b r : List Int} {i : Nat} {x : Int} (hw : Wf r) : InnerOK b r i x 0 0 r :=
  ⟨rfl, hw, by omega, by omega, by simp [val], fun _ _ => rfl⟩

theorem InnerOK.step {b r : List Int} {i : Nat} {x : Int} {k : Nat} {c : Int} {r' : List Int} (h : InnerOK b r i x k c r') (wb : Wf b) (hx : 0 ≤ x) (hx1 : x < 4294967296) (hk : i + k < r.length) :
    InnerOK b r i x (k + 1) ((c + x * b.getD k 0 + r'.getD (i + k) 0) / 4294967296) (r'.set (i + k) ((c + x * b.getD k 0 + r'.getD (i + k) 0) % 4294967296)) := by
  have xb := wb.getD k
  have xr := h.wf.getD (i + k)
  have hb := mul_bound h.c0 h.c1 hx hx1 xb.1 xb.2 xr.1 xr.2
  have hl := h.len
  refine ⟨by simp [hl], h.wf.set _ (by omega) (by omega), by omega, by omega, ?_, fun j hj => ?_⟩
  · rw [val_set (by omega), val_take_succ, show i + (k + 1) = (i + k) + 1 by omega, powB]
    have e1 := mul_limb (P := 4294967296 ^ (i + k)) (V := val r') (c := c) (x := x) (y := b.getD k 0) (r := r'.getD (i + k) 0) (s := c + x * b.getD k 0 + r'.getD (i + k) 0) rfl
    have e2 : (4294967296 : Int) ^ (i + k) = 4294967296 ^ i * 4294967296 ^ k := Int.pow_add ..
    have e3 := h.vl
    grind
  · rw [getD_set, if_neg (by omega)]
    exact h.hi j (by omega)

/-- The outer loop: a's first i limbs times b. -/
structure OuterOK (a b : List Int) (i : Nat) (r : List Int) : Prop where
  len : r.length = a.length + b.length
  wf : Wf r
  vl : val r = val (a.take i) * val b
  hi : ∀ j, i + b.length ≤ j → r.getD j 0 = 0

theorem OuterOK.zero (a b : List Int) : OuterOK a b 0 (List.replicate (a.length + b.length) 0) :=
  ⟨by simp, Wf.replicate _, by simp [val, val_replicate], fun j _ => by
    rw [List.getD_eq_getElem?_getD, List.getElem?_replicate]
    split <;> rfl⟩

theorem OuterOK.step {a b : List Int} {i : Nat} {r r' : List Int} {c : Int} (h : OuterOK a b i r) (hI : InnerOK b r i (a.getD i 0) b.length c r') (hi : i < a.length) : OuterOK a b (i + 1) (r'.set (i + b.length) c) := by
  have hl := h.len
  have hl' := hI.len
  have h0 : r'.getD (i + b.length) 0 = 0 := by rw [hI.hi _ (Nat.le_refl _), h.hi _ (Nat.le_refl _)]
  refine ⟨by simp [hl', hl], hI.wf.set _ hI.c0 hI.c1, ?_, fun j hj => ?_⟩
  · rw [val_set (by omega), h0, val_take_succ]
    have e1 := hI.vl
    have e2 := h.vl
    rw [val_take_all (Nat.le_refl _)] at e1
    grind
  · rw [getD_set, if_neg (by omega), hI.hi _ (by omega), h.hi _ (by omega)]

/-! ### The program's product -/
theorem S57_7_spec {a b r : List Int} {i : Nat} {t18 : List Int} {t19 t20 : Int} (wa : Wf a) (wb : Wf b) (sa : Sm a) (sb : Sm b) (wr : Wf r) (hr : r.length = a.length + b.length) (hi : i < a.length) :
    ∃ c r', limL S57_7 ((b, (), (i : Int), a.getD i 0, 0, t18, t19, t20, b, (b.length : Int), 0, ()), (r, ())) = some ((b, (), (i : Int), c, t18, t19, t20, ()), (r', ())) ∧ InnerOK b r i (a.getD i 0) b.length c r' := by
  unfold Sm at sa sb
  have xa := wa.getD i
  obtain ⟨z, h1, c, r', rfl, h2⟩ := limL_ind (f := S57_7) (fun x => b.length - x.1.2.2.2.2.2.2.2.2.2.2.1.toNat)
    (fun x => ∃ (c : Int) (k : Nat) (r' : List Int), x = ((b, (), (i : Int), a.getD i 0, c, t18, t19, t20, b, (b.length : Int), (k : Int), ()), (r', ())) ∧ k ≤ b.length ∧ InnerOK b r i (a.getD i 0) k c r')
    (fun z => ∃ (c : Int) (r' : List Int), z = ((b, (), (i : Int), c, t18, t19, t20, ()), (r', ())) ∧ InnerOK b r i (a.getD i 0) b.length c r') (by
    rintro x ⟨c, k, r', rfl, hk, hI⟩
    by_cases hd : k < b.length
    · left
      have hst := hI.step wb xa.1 xa.2 (by omega)
      refine ⟨_, ?_, ⟨_, k + 1, _, rfl, by omega, hst⟩, by simp only [Int.toNat_natCast]; omega⟩
      have xb := wb.getD k
      have xr := hI.wf.getD (i + k)
      have hb := mul_bound hI.c0 hI.c1 xa.1 xa.2 xb.1 xb.2 xr.1 xr.2
      have hl := hI.len
      have hc := hI.c0
      have hc1 := hI.c1
      rw [S57_7_eq]
      have e0 : IntKind.i64.wrap ((i : Int) + (k : Int)) = ((i + k : Nat) : Int) := by rw [wi (by omega) (by omega)]; omega
      simp only [e0, Int.toNat_natCast, decide_eq_true_eq, Int.ofNat_lt]
      have q1 : i + k < r'.length := by omega
      have p2 : (0 : Int) ≤ (k : Int) := by omega
      have p3 : (0 : Int) ≤ ((i + k : Nat) : Int) := by omega
      simp only [hd, q1, p2, p3, if_true]
      generalize a.getD i 0 = A at *
      generalize b.getD k 0 = B at *
      generalize r'.getD (i + k) 0 = E at *
      obtain ⟨b1, b2, b3, b4⟩ := hb
      generalize hM : A * B = M at *
      have e1 : IntKind.u64.wrap A = A := w64 (by omega) (by omega)
      have e2 : IntKind.u64.wrap B = B := w64 (by omega) (by omega)
      have e3 : IntKind.u64.wrap E = E := w64 (by omega) (by omega)
      have e4 : IntKind.u64.wrap M = M := w64 (by omega) (by omega)
      have e5 : IntKind.u64.wrap (M + E) = M + E := w64 (by omega) (by omega)
      have e6 : IntKind.u64.wrap (M + E + c) = c + M + E := by rw [w64 (by omega) (by omega)]; omega
      have e7 : IntKind.i64.wrap ((k : Int) + 1) = ((k + 1 : Nat) : Int) := by rw [wi (by omega) (by omega)]; omega
      have f1 : (c + M + E).fdiv (2 ^ 32) = (c + M + E) / 4294967296 := by rw [Int.fdiv_eq_ediv_of_nonneg _ (by decide)]; rfl
      simp only [e1, e2, e3, hM, e4, e5, e6, e7, f1, w32m]
    · right
      have hkb : k = b.length := by omega
      subst hkb
      refine ⟨((b, (), (i : Int), c, t18, t19, t20, ()), (r', ())), ?_, c, r', rfl, hI⟩
      rw [S57_7_eq]
      simp only [decide_eq_true_eq, Int.ofNat_lt, Nat.lt_irrefl, if_false]) ((b, (), (i : Int), a.getD i 0, 0, t18, t19, t20, b, (b.length : Int), ((0 : Nat) : Int), ()), (r, ())) ⟨0, 0, r, rfl, by omega, InnerOK.zero wr⟩
  exact ⟨c, r', h1, h2⟩

theorem F57_spec {a b : List Int} (wa : Wf a) (wb : Wf b) (sa : Sm a) (sb : Sm b) : F57 (F96 (limL S96_2)) (limL (S57_3 (limL S57_7))) (a, b, ()) = some ((lim (val a * val b).toNat, ()), ()) := by
  have sa' := sa
  have sb' := sb
  unfold Sm at sa sb
  obtain ⟨z, h1, r, rfl, hO⟩ := limL_ind (f := S57_3 (limL S57_7)) (fun x => a.length - x.1.2.2.2.2.1.toNat)
    (fun x => ∃ (i : Nat) (r : List Int), x = ((b, (), a, (a.length : Int), (i : Int), ()), (r, ())) ∧ i ≤ a.length ∧ OuterOK a b i r)
    (fun z => ∃ r : List Int, z = (((), ()), (r, ())) ∧ OuterOK a b a.length r) (by
    rintro x ⟨i, r, rfl, hi, hO⟩
    by_cases hd : i < a.length
    · left
      obtain ⟨c, r', q1, q2⟩ := S57_7_spec (t18 := a) (t19 := (a.length : Int)) (t20 := (i : Int)) wa wb sa' sb' hO.wf hO.len hd
      refine ⟨_, ?_, ⟨i + 1, _, rfl, by omega, hO.step q2 hd⟩, by simp only [Int.toNat_natCast]; omega⟩
      have hl := hO.len
      have hl' := q2.len
      have hc := q2.c0
      have hc1 := q2.c1
      rw [S57_3_eq]
      simp only [decide_eq_true_eq, Int.ofNat_lt, hd, if_true, Int.toNat_natCast, show (0 : Int) ≤ (i : Int) by omega]
      rw [q1]
      have e0 : IntKind.i64.wrap ((i : Int) + (b.length : Int)) = ((i + b.length : Nat) : Int) := by rw [wi (by omega) (by omega)]; omega
      have e7 : IntKind.i64.wrap ((i : Int) + 1) = ((i + 1 : Nat) : Int) := by rw [wi (by omega) (by omega)]; omega
      have m1 : IntKind.u32.wrap c = c := w32 (by omega) (by omega)
      have h0 : r'.getD (i + b.length) 0 = 0 := by rw [q2.hi _ (Nat.le_refl _), hO.hi _ (Nat.le_refl _)]
      simp only [Option.bind_some, e0, e7, m1, Int.toNat_natCast]
      rw [if_pos (by omega), if_pos (by omega), if_pos (by omega), if_pos (by omega), h0, Int.zero_add, m1]
    · right
      have hia : i = a.length := by omega
      subst hia
      refine ⟨(((), ()), (r, ())), ?_, r, rfl, hO⟩
      rw [S57_3_eq]
      simp only [decide_eq_true_eq, Int.ofNat_lt, Nat.lt_irrefl, if_false]) ((b, (), a, (a.length : Int), ((0 : Nat) : Int), ()), (List.replicate (a.length + b.length) 0, ())) ⟨0, _, rfl, by omega, OuterOK.zero a b⟩
  have hw : IntKind.i64.wrap ((a.length : Int) + (b.length : Int)) = ((a.length + b.length : Nat) : Int) := by rw [wi (by omega) (by omega)]; omega
  rw [F57_eq]
  simp only [hw, Int.toNat_natCast]
  rw [if_pos (by omega), if_pos (by omega), if_pos (by omega)]
  rw [show limL (S57_3 (limL S57_7)) ((b, (), a, (a.length : Int), 0, ()), List.replicate (a.length + b.length) 0, ()) = _ from h1]
  show ((F96 (limL S96_2) (r, ())).bind fun y => some ((y.1.1, ()), ())) = _
  have hl := hO.len
  have hv := hO.vl
  rw [val_take_all (Nat.le_refl _)] at hv
  rw [F96_spec hO.wf (by omega), hv]
  rfl
end Go.Proofs.Rf
