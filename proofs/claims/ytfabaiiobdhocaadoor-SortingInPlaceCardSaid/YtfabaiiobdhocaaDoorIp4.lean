/- Texts put together: Q36, EQ360, E26, L36, A1, A2, A3, A4, H1, H6, H7, K36, H10, H11, Gx. -/
import Derived.Test.YtfabaiiobdhocaaDoorIp3
import Derived.Test.YtfabaiiobdhocaaDoorRows
import Derived.WalkKit
import Derived.ProofKit
import Derived.OpenShut
import Derived.LaidMore
import Derived.Stop.Joined
namespace Go.Proofs.Rf
open Go Go.RowKit
abbrev XB := (Int × (Int × (Bool × Bool))) × List (Int × (Int × (Int × Int)))
abbrev XR := (Int × (Int × (Bool × Bool))) × List (Int × (Int × ((Int × Int) × Int)))
abbrev z4 : Int × Int × Int × Int := (0, 0, 0, 0)
abbrev z5 : Int × Int × (Int × Int) × Int := (0, 0, (0, 0), 0)
abbrev tb : Tab := tabOf tyTab
theorem mixed : Tryd.prog.follows .mixedOrders = true := by kernel_rfl
theorem ext89 : ExtOK Tryd.prog 89 sameO := same_ok Tryd.func89 (by kernel_rfl) (by kernel_rfl) (by kernel_rfl) (by kernel_rfl)
abbrev tI : Ty := .int .i64
abbrev tIt : Ty := .pr (.int .i64) (.int .i64)
abbrev tEn : Ty := .pr tIt (.int .i64)
abbrev tR : Ty := .tr (.pr (.int .i64) (.int .u64)) (.int .i64)
abbrev ps11 : List SV := []
abbrev rs11 : Shape := ⟨[(0, .pt 0 0)], [.box 90 [.rf 1, .d false tI], .row tEn 96]⟩
abbrev TF11 := SV.denL ps11 → Option rs11.den
noncomputable def F11 : TF11 := z1b tb [] [] Tryd.f11 ps11 rs11
theorem call11 : z0c Tryd.prog 11 (mkCall ps11 rs11 (F11)) :=
 z0t mixed z0v (Δ := []) trivial ⟨Tryd.func11, rfl, by kernel_rfl, by kernel_rfl, by kernel_rfl, by kernel_rfl⟩ rfl (z0d (Λ := []) (cs := []) (by kernel_rfl) (by kernel_rfl) (by kernel_rfl) trivial)
abbrev z3A : Shape := ⟨[(0, .pt 0 0)], [.box 90 [.rf 1, .d false tI], .row tEn 96]⟩
abbrev m19q : List Nat := [0]
abbrev z6R : Shape := ⟨[(0, .pt 0 0), (1, .d false tI)], [.box 90 [.rf 1, .d false tI], .row tEn 96]⟩
abbrev TF19q := z3A.den → Option z6R.den
noncomputable def F19q : TF19q := z0U tb [] [] Tryd.f19 z3A z6R 1
theorem call19q : z0c Tryd.prog 19 (mkCallB z3A z6R m19q 1 (F19q)) :=
 z0w mixed z0v (Δ := []) trivial ⟨Tryd.func19, rfl, by kernel_rfl, by kernel_rfl, by kernel_rfl, by kernel_rfl, by kernel_rfl, by kernel_rfl, by kernel_rfl, by kernel_rfl, by kernel_rfl⟩ rfl (z0d (Λ := []) (cs := []) (by kernel_rfl) (by kernel_rfl) (by kernel_rfl) trivial)
abbrev z5I : Shape := ⟨[(0, .pt 0 0)], [.box 90 [.rf 1, .d false tI], .row tEn 96]⟩
abbrev m17q : List Nat := [0]
abbrev rs17q : Shape := ⟨[(0, .pt 0 0), (1, .d true tIt), (2, .d false tI)], [.box 90 [.rf 1, .d false tI], .row tEn 96]⟩
abbrev TF17q := z5I.den → Option rs17q.den
noncomputable def F17q (F19q : TF19q) : TF17q := z0U tb [(19, mkCallB z3A z6R m19q 1 F19q)] [] Tryd.f17 z5I rs17q 1
theorem call17q {F19q : TF19q} (h19q : z0c Tryd.prog 19 (mkCallB z3A z6R m19q 1 F19q)) : z0c Tryd.prog 17 (mkCallB z5I rs17q m17q 1 (F17q F19q)) :=
 z0w mixed z0v (Δ := [(19, mkCallB z3A z6R m19q 1 F19q)]) ⟨.inl h19q, trivial⟩ ⟨Tryd.func17, rfl, by kernel_rfl, by kernel_rfl, by kernel_rfl, by kernel_rfl, by kernel_rfl, by kernel_rfl, by kernel_rfl, by kernel_rfl, by kernel_rfl⟩ rfl (z0d (Λ := []) (cs := []) (by kernel_rfl) (by kernel_rfl) (by kernel_rfl) trivial)
abbrev ps123 : List SV := [.d true tEn, .d true tEn]
abbrev rs123 : Shape := ⟨[(0, .d false .bool)], []⟩
abbrev TF123 := SV.denL ps123 → Option rs123.den
noncomputable def F123 : TF123 := z1b tb [] [] Tryd.f123 ps123 rs123
theorem call123 : z0c Tryd.prog 123 (mkCall ps123 rs123 (F123)) :=
 z0t mixed z0v (Δ := []) trivial ⟨Tryd.func123, rfl, by kernel_rfl, by kernel_rfl, by kernel_rfl, by kernel_rfl⟩ rfl (z0d (Λ := []) (cs := []) (by kernel_rfl) (by kernel_rfl) (by kernel_rfl) trivial)
abbrev ps124 : List SV := [.d true tEn, .d true tEn]
abbrev rs124 : Shape := ⟨[(0, .d false .bool)], []⟩
abbrev TF124 := SV.denL ps124 → Option rs124.den
noncomputable def F124 : TF124 := z1b tb [] [] Tryd.f124 ps124 rs124
theorem call124 : z0c Tryd.prog 124 (mkCall ps124 rs124 (F124)) :=
 z0t mixed z0v (Δ := []) trivial ⟨Tryd.func124, rfl, by kernel_rfl, by kernel_rfl, by kernel_rfl, by kernel_rfl⟩ rfl (z0d (Λ := []) (cs := []) (by kernel_rfl) (by kernel_rfl) (by kernel_rfl) trivial)
abbrev ps50 : List SV := [.d true tEn, .d true tEn]
abbrev rs50 : Shape := ⟨[(0, .d false .bool)], []⟩
abbrev TF50 := SV.denL ps50 → Option rs50.den
abbrev z5q : Shape := ⟨[(2, .pt 0 0), (3, .pt 1 0), (7, .d true (.pr (.fk 123) (.fk 124))), (8, .d false tI)], [.box 96 [.d false tI, .d false tI, .d false tI], .box 96 [.d false tI, .d false tI, .d false tI]]⟩
abbrev w50_2 : List Way := [(none, ⟨[(4, .d false .bool)], []⟩), (some 0, ⟨[], []⟩)]
noncomputable def S50_2 (F123 : TF123) (F124 : TF124) : z5q.den → Option (z5q.den ⊕ denX w50_2) := z1w tb [(123, mkCall ps123 rs123 F123), (124, mkCall ps124 rs124 F124)] [] (upTo 29) Tryd.f50 2 z5q w50_2
noncomputable def F50 (g50_2 : z5q.den → Option (denX w50_2)) : TF50 := z1b tb [] [(2, lp z5q w50_2 g50_2)] Tryd.f50 ps50 rs50
theorem call50 {F123 : TF123} {F124 : TF124} {g50_2 : z5q.den → Option (denX w50_2)} (h123 : z0c Tryd.prog 123 (mkCall ps123 rs123 F123)) (h124 : z0c Tryd.prog 124 (mkCall ps124 rs124 F124)) (hg50_2 : Lim (S50_2 F123 F124) g50_2) : z0c Tryd.prog 50 (mkCall ps50 rs50 (F50 g50_2)) :=
 z0t mixed z0v (Δ := []) trivial ⟨Tryd.func50, rfl, by kernel_rfl, by kernel_rfl, by kernel_rfl, by kernel_rfl⟩ rfl (z0d (cs := [.loop (z0M Tryd.f50 2)]) (by kernel_rfl) (by kernel_rfl) (by kernel_rfl) ⟨z0y mixed z0v (Δ := [(123, mkCall ps123 rs123 F123), (124, mkCall ps124 rs124 F124)]) ⟨.inl h123, .inl h124, trivial⟩ hg50_2 (z0d (Λ := []) (cs := []) (by kernel_rfl) (by kernel_rfl) (by kernel_rfl) trivial), trivial⟩)
abbrev z5J : Shape := ⟨[(0, .pt 0 0)], [.box 90 [.rf 1, .d false tI], .row tEn 96]⟩
abbrev m15q : List Nat := [0]
abbrev rs15q : Shape := ⟨[(0, .pt 0 0), (1, .d true tIt), (2, .d false tI)], [.box 90 [.rf 1, .d false tI], .row tEn 96]⟩
abbrev TF15q := z5J.den → Option rs15q.den
abbrev z2D : Shape := ⟨[(0, .pt 0 0), (2, .pt 1 0), (4, .pt 2 0), (6, .d false tI), (7, .d false tI), (8, .d false tI), (56, .d false tI)], [.box 90 [.rf 3, .d false tI], .box 33 [.d false tI, .d false tI], .box 33 [.d false tI, .d false tI], .row tEn 96]⟩
abbrev z4r : List Way := [(some 2, ⟨[(0, .pt 0 0), (2, .pt 1 0), (4, .pt 2 0), (6, .d false tI), (7, .d false tI), (8, .d false tI)], [.box 90 [.rf 3, .d false tI], .box 33 [.d false tI, .d false tI], .box 33 [.d false tI, .d false tI], .row tEn 96]⟩)]
abbrev z2E : Shape := ⟨[(0, .pt 0 0), (2, .pt 1 0), (4, .pt 2 0), (6, .d false tI), (7, .d false tI)], [.box 90 [.rf 3, .d false tI], .box 33 [.d false tI, .d false tI], .box 33 [.d false tI, .d false tI], .row tEn 96]⟩
abbrev z4s : List Way := [(none, ⟨[(0, .pt 0 0), (2, .pt 1 0), (3, .d false tI)], [.box 90 [.rf 2, .d false tI], .box 33 [.d false tI, .d false tI], .row tEn 96]⟩)]
noncomputable def S15q_12 (F50 : TF50) : z2D.den → Option (z2D.den ⊕ denX z4r) := z1w tb [(50, mkCall ps50 rs50 F50)] [] (z1M (upTo 117) (z0C 0 1)) Tryd.f15 12 z2D z4r
noncomputable def S15q_10 (g15q_12 : z2D.den → Option (denX z4r)) : z2E.den → Option (z2E.den ⊕ denX z4s) := z1w tb [] [(12, lp z2D z4r g15q_12)] (z1M (upTo 117) (z0C 0 1)) Tryd.f15 10 z2E z4s
noncomputable def F15q (F17q : TF17q) (g15q_10 : z2E.den → Option (denX z4s)) : TF15q := z0U tb [(17, mkCallB z5I rs17q m17q 1 F17q)] [(10, lp z2E z4s g15q_10)] Tryd.f15 z5J rs15q 1
theorem call15q {F17q : TF17q} {F50 : TF50} {g15q_12 : z2D.den → Option (denX z4r)} {g15q_10 : z2E.den → Option (denX z4s)} (h17q : z0c Tryd.prog 17 (mkCallB z5I rs17q m17q 1 F17q)) (h50 : z0c Tryd.prog 50 (mkCall ps50 rs50 F50)) (hg15q_12 : Lim (S15q_12 F50) g15q_12) (hg15q_10 : Lim (S15q_10 g15q_12) g15q_10) : z0c Tryd.prog 15 (mkCallB z5J rs15q m15q 1 (F15q F17q g15q_10)) :=
 z0w mixed z0v (Δ := [(17, mkCallB z5I rs17q m17q 1 F17q)]) ⟨.inl h17q, trivial⟩ ⟨Tryd.func15, rfl, by kernel_rfl, by kernel_rfl, by kernel_rfl, by kernel_rfl, by kernel_rfl, by kernel_rfl, by kernel_rfl, by kernel_rfl, by kernel_rfl⟩ rfl (z0d (cs := [.loop (z0M Tryd.f15 10)]) (by kernel_rfl) (by kernel_rfl) (by kernel_rfl) ⟨z0y mixed z0v (Δ := []) trivial hg15q_10 (z0d (cs := [.loop (z0M Tryd.f15 12)]) (by kernel_rfl) (by kernel_rfl) (by kernel_rfl) ⟨z0y mixed z0v (Δ := [(50, mkCall ps50 rs50 F50)]) ⟨.inl h50, trivial⟩ hg15q_12 (z0d (Λ := []) (cs := []) (by kernel_rfl) (by kernel_rfl) (by kernel_rfl) trivial), trivial⟩), trivial⟩)
abbrev ps22 : List SV := [.d false (.sl tIt)]
abbrev rs22 : Shape := ⟨[(0, .d false (.sl tIt))], []⟩
abbrev TF22 := SV.denL ps22 → Option rs22.den
abbrev z3s : Shape := ⟨[(3, .rf 0), (6, .d false (.sl tIt)), (7, .d false tI), (8, .d false tI)], [.row tIt 33]⟩
abbrev w22_3 : List Way := [(some 0, ⟨[(3, .rf 0)], [.row tIt 33]⟩)]
noncomputable def S22_3 : z3s.den → Option (z3s.den ⊕ denX w22_3) := z1w tb [] [] (upTo 18) Tryd.f22 3 z3s w22_3
noncomputable def F22 (g22_3 : z3s.den → Option (denX w22_3)) : TF22 := z1b tb [] [(3, lp z3s w22_3 g22_3)] Tryd.f22 ps22 rs22
theorem call22 {g22_3 : z3s.den → Option (denX w22_3)} (hg22_3 : Lim (S22_3) g22_3) : z0c Tryd.prog 22 (mkCall ps22 rs22 (F22 g22_3)) :=
 z0t mixed z0v (Δ := []) trivial ⟨Tryd.func22, rfl, by kernel_rfl, by kernel_rfl, by kernel_rfl, by kernel_rfl⟩ rfl (z0d (cs := [.loop (z0M Tryd.f22 3)]) (by kernel_rfl) (by kernel_rfl) (by kernel_rfl) ⟨z0y mixed z0v (Δ := []) trivial hg22_3 (z0d (Λ := []) (cs := []) (by kernel_rfl) (by kernel_rfl) (by kernel_rfl) trivial), trivial⟩)
abbrev ps25 : List SV := [.d false (.sl tIt), .d false (.sl tIt)]
abbrev rs25 : Shape := ⟨[(0, .d false .bool)], []⟩
abbrev TF25 := SV.denL ps25 → Option rs25.den
abbrev z3r : Shape := ⟨[(1, .d false (.sl tIt)), (12, .d false (.sl tIt)), (13, .d false tI), (14, .d false tI)], []⟩
abbrev w25_4 : List Way := [(none, ⟨[(4, .d false .bool)], []⟩), (some 0, ⟨[], []⟩)]
noncomputable def S25_4 : z3r.den → Option (z3r.den ⊕ denX w25_4) := z1w tb [] [] (upTo 26) Tryd.f25 4 z3r w25_4
noncomputable def F25 (g25_4 : z3r.den → Option (denX w25_4)) : TF25 := z1b tb [] [(4, lp z3r w25_4 g25_4)] Tryd.f25 ps25 rs25
theorem call25 {g25_4 : z3r.den → Option (denX w25_4)} (hg25_4 : Lim (S25_4) g25_4) : z0c Tryd.prog 25 (mkCall ps25 rs25 (F25 g25_4)) :=
 z0t mixed z0v (Δ := []) trivial ⟨Tryd.func25, rfl, by kernel_rfl, by kernel_rfl, by kernel_rfl, by kernel_rfl⟩ rfl (z0d (cs := [.loop (z0M Tryd.f25 4)]) (by kernel_rfl) (by kernel_rfl) (by kernel_rfl) ⟨z0y mixed z0v (Δ := []) trivial hg25_4 (z0d (Λ := []) (cs := []) (by kernel_rfl) (by kernel_rfl) (by kernel_rfl) trivial), trivial⟩)
abbrev ps28 : List SV := [.d false tI, .d false tI]
abbrev rs28 : Shape := ⟨[(0, .d false (.int .u64))], []⟩
abbrev TF28 := SV.denL ps28 → Option rs28.den
noncomputable def F28 : TF28 := z1b tb [] [] Tryd.f28 ps28 rs28
theorem call28 : z0c Tryd.prog 28 (mkCall ps28 rs28 (F28)) :=
 z0t mixed z0v (Δ := []) trivial ⟨Tryd.func28, rfl, by kernel_rfl, by kernel_rfl, by kernel_rfl, by kernel_rfl⟩ rfl (z0d (Λ := []) (cs := []) (by kernel_rfl) (by kernel_rfl) (by kernel_rfl) trivial)
abbrev ps53 : List SV := [.d true tIt, .d true tIt]
abbrev rs53 : Shape := ⟨[(0, .d false .bool)], []⟩
abbrev TF53 := SV.denL ps53 → Option rs53.den
noncomputable def F53 : TF53 := z1b tb [] [] Tryd.f53 ps53 rs53
theorem call53 : z0c Tryd.prog 53 (mkCall ps53 rs53 (F53)) :=
 z0t mixed z0v (Δ := []) trivial ⟨Tryd.func53, rfl, by kernel_rfl, by kernel_rfl, by kernel_rfl, by kernel_rfl⟩ rfl (z0d (Λ := []) (cs := []) (by kernel_rfl) (by kernel_rfl) (by kernel_rfl) trivial)
abbrev ps52 : List SV := [.d false (.sl tIt), .d false (.sl tIt), .d false (.fk 53)]
abbrev rs52 : Shape := ⟨[(0, .d false (.sl tIt))], []⟩
abbrev TF52 := SV.denL ps52 → Option rs52.den
abbrev z5p : Shape := ⟨[(0, .d false (.sl tIt)), (1, .d false (.sl tIt)), (2, .fn 53 []), (7, .rf 0)], [.row tIt 33]⟩
abbrev w52_2 : List Way := [(some 0, ⟨[(0, .d false (.sl tIt)), (1, .d false (.sl tIt)), (7, .rf 0)], [.row tIt 33]⟩)]
noncomputable def S52_2 (F53 : TF53) : z5p.den → Option (z5p.den ⊕ denX w52_2) := z1w tb [(53, mkCall ps53 rs53 F53)] [] (upTo 51) Tryd.f52 2 z5p w52_2
noncomputable def F52 (g52_2 : z5p.den → Option (denX w52_2)) : TF52 := z1b tb [] [(2, lp z5p w52_2 g52_2)] Tryd.f52 ps52 rs52
theorem call52 {F53 : TF53} {g52_2 : z5p.den → Option (denX w52_2)} (h53 : z0c Tryd.prog 53 (mkCall ps53 rs53 F53)) (hg52_2 : Lim (S52_2 F53) g52_2) : z0c Tryd.prog 52 (mkCall ps52 rs52 (F52 g52_2)) :=
 z0t mixed z0v (Δ := []) trivial ⟨Tryd.func52, rfl, by kernel_rfl, by kernel_rfl, by kernel_rfl, by kernel_rfl⟩ rfl (z0d (cs := [.loop (z0M Tryd.f52 2)]) (by kernel_rfl) (by kernel_rfl) (by kernel_rfl) ⟨z0y mixed z0v (Δ := [(53, mkCall ps53 rs53 F53)]) ⟨.inl h53, trivial⟩ hg52_2 (z0d (Λ := []) (cs := []) (by kernel_rfl) (by kernel_rfl) (by kernel_rfl) trivial), trivial⟩)
abbrev ps74 : List SV := [.d false (.sl tIt)]
abbrev rs74 : Shape := ⟨[(0, .d false (.sl tIt))], []⟩
abbrev TF74 := SV.denL ps74 → Option rs74.den
noncomputable def F74 : TF74 := z1b tb [] [] Tryd.f74 ps74 rs74
theorem call74 : z0c Tryd.prog 74 (mkCall ps74 rs74 (F74)) :=
 z0t mixed z0v (Δ := []) trivial ⟨Tryd.func74, rfl, by kernel_rfl, by kernel_rfl, by kernel_rfl, by kernel_rfl⟩ rfl (z0d (Λ := []) (cs := []) (by kernel_rfl) (by kernel_rfl) (by kernel_rfl) trivial)
abbrev ps56 : List SV := [.d false (.sl tIt), .d false (.fk 53)]
abbrev rs56 : Shape := ⟨[(0, .d false (.sl tIt))], []⟩
abbrev TF56 := SV.denL ps56 → Option rs56.den
noncomputable def F56 (F52 : TF52) (R56 : TF56) (F74 : TF74) : TF56 := z1b tb [(52, mkCall ps52 rs52 F52), (56, mkCall ps56 rs56 R56), (74, mkCall ps74 rs74 F74)] [] Tryd.f56 ps56 rs56
theorem call56 {F52 : TF52} {R56 : TF56} {F74 : TF74} (h52 : z0c Tryd.prog 52 (mkCall ps52 rs52 F52)) (h56 : z0c Tryd.prog 56 (mkCall ps56 rs56 R56)) (h74 : z0c Tryd.prog 74 (mkCall ps74 rs74 F74)) : z0c Tryd.prog 56 (mkCall ps56 rs56 (F56 F52 R56 F74)) :=
 z0t mixed z0v (Δ := [(52, mkCall ps52 rs52 F52), (56, mkCall ps56 rs56 R56), (74, mkCall ps74 rs74 F74)]) ⟨.inl h52, .inl h56, .inl h74, trivial⟩ ⟨Tryd.func56, rfl, by kernel_rfl, by kernel_rfl, by kernel_rfl, by kernel_rfl⟩ rfl (z0d (Λ := []) (cs := []) (by kernel_rfl) (by kernel_rfl) (by kernel_rfl) trivial)
abbrev ps30 : List SV := [.d false (.sl tIt)]
abbrev rs30 : Shape := ⟨[(0, .d false (.sl tIt))], []⟩
abbrev TF30 := SV.denL ps30 → Option rs30.den
noncomputable def F30 (F56 : TF56) : TF30 := z1b tb [(56, mkCall ps56 rs56 F56)] [] Tryd.f30 ps30 rs30
theorem call30 {F56 : TF56} (h56 : z0c Tryd.prog 56 (mkCall ps56 rs56 F56)) : z0c Tryd.prog 30 (mkCall ps30 rs30 (F30 F56)) :=
 z0t mixed z0v (Δ := [(56, mkCall ps56 rs56 F56)]) ⟨.inl h56, trivial⟩ ⟨Tryd.func30, rfl, by kernel_rfl, by kernel_rfl, by kernel_rfl, by kernel_rfl⟩ rfl (z0d (Λ := []) (cs := []) (by kernel_rfl) (by kernel_rfl) (by kernel_rfl) trivial)
abbrev ps34 : List SV := [.d false tI]
abbrev rs34 : Shape := ⟨[(0, .pt 0 0)], [.box 108 [.d false tR, .d false tI, .mp 1], .map tI false tI]⟩
abbrev TF34 := SV.denL ps34 → Option rs34.den
noncomputable def F34 : TF34 := z1b tb [] [] Tryd.f34 ps34 rs34
theorem call34 : z0c Tryd.prog 34 (mkCall ps34 rs34 (F34)) :=
 z0t mixed z0v (Δ := []) trivial ⟨Tryd.func34, rfl, by kernel_rfl, by kernel_rfl, by kernel_rfl, by kernel_rfl⟩ rfl (z0d (Λ := []) (cs := []) (by kernel_rfl) (by kernel_rfl) (by kernel_rfl) trivial)
abbrev ps57 : List SV := [.d false tR]
abbrev rs57 : Shape := ⟨[(0, .d false tI)], []⟩
abbrev TF57 := SV.denL ps57 → Option rs57.den
noncomputable def F57 : TF57 := z1b tb [] [] Tryd.f57 ps57 rs57
theorem call57 : z0c Tryd.prog 57 (mkCall ps57 rs57 (F57)) :=
 z0t mixed z0v (Δ := []) trivial ⟨Tryd.func57, rfl, by kernel_rfl, by kernel_rfl, by kernel_rfl, by kernel_rfl⟩ rfl (z0d (Λ := []) (cs := []) (by kernel_rfl) (by kernel_rfl) (by kernel_rfl) trivial)
abbrev ps75 : List SV := [.d false tR, .d false tR, .d false tR]
abbrev rs75 : Shape := ⟨[(0, .d false tR)], []⟩
abbrev TF75 := SV.denL ps75 → Option rs75.den
noncomputable def F75 (F57 : TF57) : TF75 := z1b tb [(57, mkCall ps57 rs57 F57)] [] Tryd.f75 ps75 rs75
theorem call75 {F57 : TF57} (h57 : z0c Tryd.prog 57 (mkCall ps57 rs57 F57)) : z0c Tryd.prog 75 (mkCall ps75 rs75 (F75 F57)) :=
 z0t mixed z0v (Δ := [(57, mkCall ps57 rs57 F57)]) ⟨.inl h57, trivial⟩ ⟨Tryd.func75, rfl, by kernel_rfl, by kernel_rfl, by kernel_rfl, by kernel_rfl⟩ rfl (z0d (Λ := []) (cs := []) (by kernel_rfl) (by kernel_rfl) (by kernel_rfl) trivial)
abbrev ps58 : List SV := [.d false tR, .d false tI]
abbrev rs58 : Shape := ⟨[(0, .d false tR), (1, .d false tR)], []⟩
abbrev TF58 := SV.denL ps58 → Option rs58.den
noncomputable def F58 (R58 : TF58) (F75 : TF75) : TF58 := z1b tb [(58, mkCall ps58 rs58 R58), (75, mkCall ps75 rs75 F75)] [] Tryd.f58 ps58 rs58
theorem call58 {R58 : TF58} {F75 : TF75} (h58 : z0c Tryd.prog 58 (mkCall ps58 rs58 R58)) (h75 : z0c Tryd.prog 75 (mkCall ps75 rs75 F75)) : z0c Tryd.prog 58 (mkCall ps58 rs58 (F58 R58 F75)) :=
 z0t mixed z0v (Δ := [(58, mkCall ps58 rs58 R58), (75, mkCall ps75 rs75 F75)]) ⟨.inl h58, .inl h75, trivial⟩ ⟨Tryd.func58, rfl, by kernel_rfl, by kernel_rfl, by kernel_rfl, by kernel_rfl⟩ rfl (z0d (Λ := []) (cs := []) (by kernel_rfl) (by kernel_rfl) (by kernel_rfl) trivial)
abbrev ps82 : List SV := [.d false tR, .d false tR]
abbrev rs82 : Shape := ⟨[(0, .d false .bool)], []⟩
abbrev TF82 := SV.denL ps82 → Option rs82.den
noncomputable def F82 : TF82 := z1b tb [] [] Tryd.f82 ps82 rs82
theorem call82 : z0c Tryd.prog 82 (mkCall ps82 rs82 (F82)) :=
 z0t mixed z0v (Δ := []) trivial ⟨Tryd.func82, rfl, by kernel_rfl, by kernel_rfl, by kernel_rfl, by kernel_rfl⟩ rfl (z0d (Λ := []) (cs := []) (by kernel_rfl) (by kernel_rfl) (by kernel_rfl) trivial)
abbrev ps76 : List SV := [.d false tR, .d false tR]
abbrev rs76 : Shape := ⟨[(0, .d false .bool)], []⟩
abbrev TF76 := SV.denL ps76 → Option rs76.den
noncomputable def F76 (F82 : TF82) : TF76 := z1b tb [(82, mkCall ps82 rs82 F82)] [] Tryd.f76 ps76 rs76
theorem call76 {F82 : TF82} (h82 : z0c Tryd.prog 82 (mkCall ps82 rs82 F82)) : z0c Tryd.prog 76 (mkCall ps76 rs76 (F76 F82)) :=
 z0t mixed z0v (Δ := [(82, mkCall ps82 rs82 F82)]) ⟨.inl h82, trivial⟩ ⟨Tryd.func76, rfl, by kernel_rfl, by kernel_rfl, by kernel_rfl, by kernel_rfl⟩ rfl (z0d (Λ := []) (cs := []) (by kernel_rfl) (by kernel_rfl) (by kernel_rfl) trivial)
abbrev ps59 : List SV := [.d false tR, .d false tR]
abbrev rs59 : Shape := ⟨[(0, .d false tR)], []⟩
abbrev TF59 := SV.denL ps59 → Option rs59.den
noncomputable def F59 (R59 : TF59) (F75 : TF75) (F76 : TF76) : TF59 := z1b tb [(59, mkCall ps59 rs59 R59), (75, mkCall ps75 rs75 F75), (76, mkCall ps76 rs76 F76)] [] Tryd.f59 ps59 rs59
theorem call59 {R59 : TF59} {F75 : TF75} {F76 : TF76} (h59 : z0c Tryd.prog 59 (mkCall ps59 rs59 R59)) (h75 : z0c Tryd.prog 75 (mkCall ps75 rs75 F75)) (h76 : z0c Tryd.prog 76 (mkCall ps76 rs76 F76)) : z0c Tryd.prog 59 (mkCall ps59 rs59 (F59 R59 F75 F76)) :=
 z0t mixed z0v (Δ := [(59, mkCall ps59 rs59 R59), (75, mkCall ps75 rs75 F75), (76, mkCall ps76 rs76 F76)]) ⟨.inl h59, .inl h75, .inl h76, trivial⟩ ⟨Tryd.func59, rfl, by kernel_rfl, by kernel_rfl, by kernel_rfl, by kernel_rfl⟩ rfl (z0d (Λ := []) (cs := []) (by kernel_rfl) (by kernel_rfl) (by kernel_rfl) trivial)
abbrev z5H : Shape := ⟨[(0, .pt 0 0), (1, .d false tI), (2, .d false tI)], [.box 108 [.d false tR, .d false tI, .mp 1], .map tI false tI]⟩
abbrev m35t : List Nat := [0]
abbrev rs35t : Shape := ⟨[(0, .pt 0 0), (1, .d false tI), (2, .d false tI), (3, .d false .bool), (4, .d false tI)], [.box 108 [.d false tR, .d false tI, .mp 1], .map tI false tI]⟩
abbrev TF35t := z5H.den → Option rs35t.den
noncomputable def F35t (F28 : TF28) (F57 : TF57) (F58 : TF58) (F59 : TF59) : TF35t := z0U tb [(28, mkCall ps28 rs28 F28), (57, mkCall ps57 rs57 F57), (58, mkCall ps58 rs58 F58), (59, mkCall ps59 rs59 F59)] [] Tryd.f35 z5H rs35t 3
theorem call35t {F28 : TF28} {F57 : TF57} {F58 : TF58} {F59 : TF59} (h28 : z0c Tryd.prog 28 (mkCall ps28 rs28 F28)) (h57 : z0c Tryd.prog 57 (mkCall ps57 rs57 F57)) (h58 : z0c Tryd.prog 58 (mkCall ps58 rs58 F58)) (h59 : z0c Tryd.prog 59 (mkCall ps59 rs59 F59)) : z0c Tryd.prog 35 (mkCallB z5H rs35t m35t 3 (F35t F28 F57 F58 F59)) :=
 z0w mixed z0v (Δ := [(28, mkCall ps28 rs28 F28), (57, mkCall ps57 rs57 F57), (58, mkCall ps58 rs58 F58), (59, mkCall ps59 rs59 F59)]) ⟨.inl h28, .inl h57, .inl h58, .inl h59, trivial⟩ ⟨Tryd.func35, rfl, by kernel_rfl, by kernel_rfl, by kernel_rfl, by kernel_rfl, by kernel_rfl, by kernel_rfl, by kernel_rfl, by kernel_rfl, by kernel_rfl⟩ rfl (z0d (Λ := []) (cs := []) (by kernel_rfl) (by kernel_rfl) (by kernel_rfl) trivial)
abbrev z5F : Shape := ⟨[(0, .pt 0 0)], [.box 108 [.d false tR, .d false tI, .mp 1], .map tI false tI]⟩
abbrev m60t : List Nat := [0]
abbrev rs60t : Shape := ⟨[(0, .pt 0 0), (1, .pt 0 0)], [.box 108 [.d false tR, .d false tI, .mp 1], .map tI false tI]⟩
abbrev TF60t := z5F.den → Option rs60t.den
noncomputable def F60t (F34 : TF34) : TF60t := z0U tb [(34, mkCall ps34 rs34 F34)] [] Tryd.f60 z5F rs60t 1
theorem call60t {F34 : TF34} (h34 : z0c Tryd.prog 34 (mkCall ps34 rs34 F34)) : z0c Tryd.prog 60 (mkCallB z5F rs60t m60t 1 (F60t F34)) :=
 z0w mixed z0v (Δ := [(34, mkCall ps34 rs34 F34)]) ⟨.inl h34, trivial⟩ ⟨Tryd.func60, rfl, by kernel_rfl, by kernel_rfl, by kernel_rfl, by kernel_rfl, by kernel_rfl, by kernel_rfl, by kernel_rfl, by kernel_rfl, by kernel_rfl⟩ rfl (z0d (Λ := []) (cs := []) (by kernel_rfl) (by kernel_rfl) (by kernel_rfl) trivial)
abbrev z2o : Shape := ⟨[(0, .pt 0 0)], [.box 119 [.pt 0 0, .rf 1], .row (.int .u8) 5]⟩
abbrev m83u : List Nat := [0]
abbrev z4w : Shape := ⟨[(0, .pt 0 0)], [.box 119 [.pt 0 0, .rf 1], .row (.int .u8) 5]⟩
abbrev TF83u := z2o.den → Option z4w.den
noncomputable def F83u : TF83u := z0U tb [(89, sameO)] [] Tryd.f83 z2o z4w 1
theorem call83u : z0c Tryd.prog 83 (mkCallB z2o z4w m83u 1 (F83u)) :=
 z0w mixed z0v (Δ := [(89, sameO)]) ⟨.inr ext89, trivial⟩ ⟨Tryd.func83, rfl, by kernel_rfl, by kernel_rfl, by kernel_rfl, by kernel_rfl, by kernel_rfl, by kernel_rfl, by kernel_rfl, by kernel_rfl, by kernel_rfl⟩ rfl (z0d (Λ := []) (cs := []) (by kernel_rfl) (by kernel_rfl) (by kernel_rfl) trivial)
abbrev z3y : Shape := ⟨[(0, .pt 0 0), (1, .d false (.int .u8))], [.box 119 [.pt 0 0, .rf 1], .row (.int .u8) 5]⟩
abbrev m77u : List Nat := [0]
abbrev z6N : Shape := ⟨[(0, .pt 0 0), (1, .d false (.int .u8)), (2, .d false .ic)], [.box 119 [.pt 0 0, .rf 1], .row (.int .u8) 5]⟩
abbrev TF77u := z3y.den → Option z6N.den
noncomputable def F77u (F83u : TF83u) : TF77u := z0U tb [(83, mkCallB z2o z4w m83u 1 F83u)] [] Tryd.f77 z3y z6N 2
theorem call77u {F83u : TF83u} (h83u : z0c Tryd.prog 83 (mkCallB z2o z4w m83u 1 F83u)) : z0c Tryd.prog 77 (mkCallB z3y z6N m77u 2 (F77u F83u)) :=
 z0w mixed z0v (Δ := [(83, mkCallB z2o z4w m83u 1 F83u)]) ⟨.inl h83u, trivial⟩ ⟨Tryd.func77, rfl, by kernel_rfl, by kernel_rfl, by kernel_rfl, by kernel_rfl, by kernel_rfl, by kernel_rfl, by kernel_rfl, by kernel_rfl, by kernel_rfl⟩ rfl (z0d (Λ := []) (cs := []) (by kernel_rfl) (by kernel_rfl) (by kernel_rfl) trivial)
abbrev z3x : Shape := ⟨[(0, .pt 0 0), (1, .d false .str)], [.box 119 [.pt 0 0, .rf 1], .row (.int .u8) 5]⟩
abbrev m78u : List Nat := [0]
abbrev z6M : Shape := ⟨[(0, .pt 0 0), (1, .d false .str), (2, .d false tI), (3, .d false .ic)], [.box 119 [.pt 0 0, .rf 1], .row (.int .u8) 5]⟩
abbrev TF78u := z3x.den → Option z6M.den
noncomputable def F78u (F83u : TF83u) : TF78u := z0U tb [(83, mkCallB z2o z4w m83u 1 F83u)] [] Tryd.f78 z3x z6M 2
theorem call78u {F83u : TF83u} (h83u : z0c Tryd.prog 83 (mkCallB z2o z4w m83u 1 F83u)) : z0c Tryd.prog 78 (mkCallB z3x z6M m78u 2 (F78u F83u)) :=
 z0w mixed z0v (Δ := [(83, mkCallB z2o z4w m83u 1 F83u)]) ⟨.inl h83u, trivial⟩ ⟨Tryd.func78, rfl, by kernel_rfl, by kernel_rfl, by kernel_rfl, by kernel_rfl, by kernel_rfl, by kernel_rfl, by kernel_rfl, by kernel_rfl, by kernel_rfl⟩ rfl (z0d (Λ := []) (cs := []) (by kernel_rfl) (by kernel_rfl) (by kernel_rfl) trivial)
abbrev ps95 : List SV := [.d false tI]
abbrev rs95 : Shape := ⟨[(0, .d false .str)], []⟩
abbrev TF95 := SV.denL ps95 → Option rs95.den
noncomputable def F95 : TF95 := z1b tb [] [] Tryd.f95 ps95 rs95
theorem call95 : z0c Tryd.prog 95 (mkCall ps95 rs95 (F95)) :=
 z0t mixed z0v (Δ := []) trivial ⟨Tryd.func95, rfl, by kernel_rfl, by kernel_rfl, by kernel_rfl, by kernel_rfl⟩ rfl (z0d (Λ := []) (cs := []) (by kernel_rfl) (by kernel_rfl) (by kernel_rfl) trivial)
abbrev ps93 : List SV := [.d false tI, .d false tI]
abbrev rs93 : Shape := ⟨[(0, .d false .str)], []⟩
abbrev TF93 := SV.denL ps93 → Option rs93.den
noncomputable def F93 (F95 : TF95) : TF93 := z1b tb [(95, mkCall ps95 rs95 F95)] [] Tryd.f93 ps93 rs93
theorem call93 {F95 : TF95} (h95 : z0c Tryd.prog 95 (mkCall ps95 rs95 F95)) : z0c Tryd.prog 93 (mkCall ps93 rs93 (F93 F95)) :=
 z0t mixed z0v (Δ := [(95, mkCall ps95 rs95 F95)]) ⟨.inl h95, trivial⟩ ⟨Tryd.func93, rfl, by kernel_rfl, by kernel_rfl, by kernel_rfl, by kernel_rfl⟩ rfl (z0d (Λ := []) (cs := []) (by kernel_rfl) (by kernel_rfl) (by kernel_rfl) trivial)
abbrev ps90 : List SV := [.d false tI]
abbrev rs90 : Shape := ⟨[(0, .d false .str)], []⟩
abbrev TF90 := SV.denL ps90 → Option rs90.den
noncomputable def F90 (F93 : TF93) : TF90 := z1b tb [(93, mkCall ps93 rs93 F93)] [] Tryd.f90 ps90 rs90
theorem call90 {F93 : TF93} (h93 : z0c Tryd.prog 93 (mkCall ps93 rs93 F93)) : z0c Tryd.prog 90 (mkCall ps90 rs90 (F90 F93)) :=
 z0t mixed z0v (Δ := [(93, mkCall ps93 rs93 F93)]) ⟨.inl h93, trivial⟩ ⟨Tryd.func90, rfl, by kernel_rfl, by kernel_rfl, by kernel_rfl, by kernel_rfl⟩ rfl (z0d (Λ := []) (cs := []) (by kernel_rfl) (by kernel_rfl) (by kernel_rfl) trivial)
abbrev ps84 : List SV := [.d false tI]
abbrev rs84 : Shape := ⟨[(0, .d false .str)], []⟩
abbrev TF84 := SV.denL ps84 → Option rs84.den
noncomputable def F84 (F90 : TF90) : TF84 := z1b tb [(90, mkCall ps90 rs90 F90)] [] Tryd.f84 ps84 rs84
theorem call84 {F90 : TF90} (h90 : z0c Tryd.prog 90 (mkCall ps90 rs90 F90)) : z0c Tryd.prog 84 (mkCall ps84 rs84 (F84 F90)) :=
 z0t mixed z0v (Δ := [(90, mkCall ps90 rs90 F90)]) ⟨.inl h90, trivial⟩ ⟨Tryd.func84, rfl, by kernel_rfl, by kernel_rfl, by kernel_rfl, by kernel_rfl⟩ rfl (z0d (Λ := []) (cs := []) (by kernel_rfl) (by kernel_rfl) (by kernel_rfl) trivial)
abbrev psh94 : Shape := ⟨[(0, .rf 0), (1, .d false (.int .i32))], [.row (.int .u8) 5]⟩
abbrev m94 : List Nat := []
abbrev rs94 : Shape := ⟨[(0, .rf 0)], [.row (.int .u8) 5]⟩
abbrev TF94 := psh94.den → Option rs94.den
noncomputable def F94 : TF94 := z0U tb [] [] Tryd.f94 psh94 rs94 0
theorem call94 : z0c Tryd.prog 94 (mkCallB psh94 rs94 m94 0 (F94)) :=
 z0w mixed z0v (Δ := []) trivial ⟨Tryd.func94, rfl, by kernel_rfl, by kernel_rfl, by kernel_rfl, by kernel_rfl, by kernel_rfl, by kernel_rfl, by kernel_rfl, by kernel_rfl, by kernel_rfl⟩ rfl (z0d (Λ := []) (cs := []) (by kernel_rfl) (by kernel_rfl) (by kernel_rfl) trivial)
abbrev psh91 : Shape := ⟨[(0, .rf 0), (1, .d false (.int .i32))], [.row (.int .u8) 5]⟩
abbrev m91 : List Nat := []
abbrev rs91 : Shape := ⟨[(0, .rf 0)], [.row (.int .u8) 5]⟩
abbrev TF91 := psh91.den → Option rs91.den
noncomputable def F91 (F94 : TF94) : TF91 := z0U tb [(94, mkCallB psh94 rs94 m94 0 F94)] [] Tryd.f91 psh91 rs91 0
theorem call91 {F94 : TF94} (h94 : z0c Tryd.prog 94 (mkCallB psh94 rs94 m94 0 F94)) : z0c Tryd.prog 91 (mkCallB psh91 rs91 m91 0 (F91 F94)) :=
 z0w mixed z0v (Δ := [(94, mkCallB psh94 rs94 m94 0 F94)]) ⟨.inl h94, trivial⟩ ⟨Tryd.func91, rfl, by kernel_rfl, by kernel_rfl, by kernel_rfl, by kernel_rfl, by kernel_rfl, by kernel_rfl, by kernel_rfl, by kernel_rfl, by kernel_rfl⟩ rfl (z0d (Λ := []) (cs := []) (by kernel_rfl) (by kernel_rfl) (by kernel_rfl) trivial)
abbrev z5C : Shape := ⟨[(0, .pt 0 0), (1, .d false (.int .i32))], [.box 119 [.pt 0 0, .rf 1], .row (.int .u8) 5]⟩
abbrev m85u : List Nat := [0]
abbrev rs85u : Shape := ⟨[(0, .pt 0 0), (1, .d false (.int .i32)), (2, .d false tI), (3, .d false .ic)], [.box 119 [.pt 0 0, .rf 1], .row (.int .u8) 5]⟩
abbrev TF85u := z5C.den → Option rs85u.den
noncomputable def F85u (F83u : TF83u) (F91 : TF91) : TF85u := z0U tb [(83, mkCallB z2o z4w m83u 1 F83u), (91, mkCallB psh91 rs91 m91 0 F91)] [] Tryd.f85 z5C rs85u 2
theorem call85u {F83u : TF83u} {F91 : TF91} (h83u : z0c Tryd.prog 83 (mkCallB z2o z4w m83u 1 F83u)) (h91 : z0c Tryd.prog 91 (mkCallB psh91 rs91 m91 0 F91)) : z0c Tryd.prog 85 (mkCallB z5C rs85u m85u 2 (F85u F83u F91)) :=
 z0w mixed z0v (Δ := [(83, mkCallB z2o z4w m83u 1 F83u), (91, mkCallB psh91 rs91 m91 0 F91)]) ⟨.inl h83u, .inl h91, trivial⟩ ⟨Tryd.func85, rfl, by kernel_rfl, by kernel_rfl, by kernel_rfl, by kernel_rfl, by kernel_rfl, by kernel_rfl, by kernel_rfl, by kernel_rfl, by kernel_rfl⟩ rfl (z0d (Λ := []) (cs := []) (by kernel_rfl) (by kernel_rfl) (by kernel_rfl) trivial)
abbrev z3w : Shape := ⟨[(0, .pt 0 0), (1, .d false tI)], [.box 119 [.pt 0 0, .rf 1], .row (.int .u8) 5]⟩
abbrev m79u : List Nat := [0]
abbrev z6L : Shape := ⟨[(0, .pt 0 0), (1, .d false tI)], [.box 119 [.pt 0 0, .rf 1], .row (.int .u8) 5]⟩
abbrev TF79u := z3w.den → Option z6L.den
abbrev z3H : Shape := ⟨[(0, .pt 0 0), (1, .d false tI), (8, .pt 1 0)], [.box 119 [.pt 0 0, .rf 2], .it, .row (.int .u8) 5]⟩
abbrev z6Z : List Way := [(some 0, ⟨[(0, .pt 0 0), (1, .d false tI)], [.box 119 [.pt 0 0, .rf 1], .row (.int .u8) 5]⟩)]
noncomputable def S79u_1 (F85u : TF85u) : z3H.den → Option (z3H.den ⊕ denX z6Z) := z1w tb [(85, mkCallB z5C rs85u m85u 2 F85u)] [] (z1M (upTo 15) (z0C 0 2)) Tryd.f79 1 z3H z6Z
noncomputable def F79u (F84 : TF84) (g79u_1 : z3H.den → Option (denX z6Z)) : TF79u := z0U tb [(84, mkCall ps84 rs84 F84)] [(1, lp z3H z6Z g79u_1)] Tryd.f79 z3w z6L 2
theorem call79u {F84 : TF84} {F85u : TF85u} {g79u_1 : z3H.den → Option (denX z6Z)} (h84 : z0c Tryd.prog 84 (mkCall ps84 rs84 F84)) (h85u : z0c Tryd.prog 85 (mkCallB z5C rs85u m85u 2 F85u)) (hg79u_1 : Lim (S79u_1 F85u) g79u_1) : z0c Tryd.prog 79 (mkCallB z3w z6L m79u 2 (F79u F84 g79u_1)) :=
 z0w mixed z0v (Δ := [(84, mkCall ps84 rs84 F84)]) ⟨.inl h84, trivial⟩ ⟨Tryd.func79, rfl, by kernel_rfl, by kernel_rfl, by kernel_rfl, by kernel_rfl, by kernel_rfl, by kernel_rfl, by kernel_rfl, by kernel_rfl, by kernel_rfl⟩ rfl (z0d (cs := [.loop (z0M Tryd.f79 1)]) (by kernel_rfl) (by kernel_rfl) (by kernel_rfl) ⟨z0y mixed z0v (Δ := [(85, mkCallB z5C rs85u m85u 2 F85u)]) ⟨.inl h85u, trivial⟩ hg79u_1 (z0d (Λ := []) (cs := []) (by kernel_rfl) (by kernel_rfl) (by kernel_rfl) trivial), trivial⟩)
abbrev z3z : Shape := ⟨[(0, .d false tR), (1, .pt 0 0)], [.box 119 [.pt 0 0, .rf 1], .row (.int .u8) 5]⟩
abbrev m61u : List Nat := [0]
abbrev z6O : Shape := ⟨[(0, .d false tR), (1, .pt 0 0)], [.box 119 [.pt 0 0, .rf 1], .row (.int .u8) 5]⟩
abbrev TF61u := z3z.den → Option z6O.den
noncomputable def F61u (R61u : TF61u) (F77u : TF77u) (F78u : TF78u) (F79u : TF79u) : TF61u := z0U tb [(61, mkCallB z3z z6O m61u 2 R61u), (77, mkCallB z3y z6N m77u 2 F77u), (78, mkCallB z3x z6M m78u 2 F78u), (79, mkCallB z3w z6L m79u 2 F79u)] [] Tryd.f61 z3z z6O 2
theorem call61u {R61u : TF61u} {F77u : TF77u} {F78u : TF78u} {F79u : TF79u} (h61u : z0c Tryd.prog 61 (mkCallB z3z z6O m61u 2 R61u)) (h77u : z0c Tryd.prog 77 (mkCallB z3y z6N m77u 2 F77u)) (h78u : z0c Tryd.prog 78 (mkCallB z3x z6M m78u 2 F78u)) (h79u : z0c Tryd.prog 79 (mkCallB z3w z6L m79u 2 F79u)) : z0c Tryd.prog 61 (mkCallB z3z z6O m61u 2 (F61u R61u F77u F78u F79u)) :=
 z0w mixed z0v (Δ := [(61, mkCallB z3z z6O m61u 2 R61u), (77, mkCallB z3y z6N m77u 2 F77u), (78, mkCallB z3x z6M m78u 2 F78u), (79, mkCallB z3w z6L m79u 2 F79u)]) ⟨.inl h61u, .inl h77u, .inl h78u, .inl h79u, trivial⟩ ⟨Tryd.func61, rfl, by kernel_rfl, by kernel_rfl, by kernel_rfl, by kernel_rfl, by kernel_rfl, by kernel_rfl, by kernel_rfl, by kernel_rfl, by kernel_rfl⟩ rfl (z0d (Λ := []) (cs := []) (by kernel_rfl) (by kernel_rfl) (by kernel_rfl) trivial)
abbrev z3v : Shape := ⟨[(0, .pt 0 0)], [.box 119 [.np, .nl]]⟩
abbrev m83f : List Nat := [0]
abbrev z6K : Shape := ⟨[(0, .pt 0 0)], [.box 119 [.pt 0 0, .nl]]⟩
abbrev TF83f := z3v.den → Option z6K.den
noncomputable def F83f : TF83f := z0U tb [(89, sameO)] [] Tryd.f83 z3v z6K 1
theorem call83f : z0c Tryd.prog 83 (mkCallB z3v z6K m83f 1 (F83f)) :=
 z0w mixed z0v (Δ := [(89, sameO)]) ⟨.inr ext89, trivial⟩ ⟨Tryd.func83, rfl, by kernel_rfl, by kernel_rfl, by kernel_rfl, by kernel_rfl, by kernel_rfl, by kernel_rfl, by kernel_rfl, by kernel_rfl, by kernel_rfl⟩ rfl (z0d (Λ := []) (cs := []) (by kernel_rfl) (by kernel_rfl) (by kernel_rfl) trivial)
abbrev z3Y : Shape := ⟨[(0, .pt 0 0), (1, .d false (.int .u8))], [.box 119 [.np, .nl]]⟩
abbrev m77f : List Nat := [0]
abbrev rs77f : Shape := ⟨[(0, .pt 0 0), (1, .d false (.int .u8)), (2, .d false .ic)], [.box 119 [.pt 0 0, .rf 1], .row (.int .u8) 5]⟩
abbrev TF77f := z3Y.den → Option rs77f.den
noncomputable def F77f (F83f : TF83f) : TF77f := z0U tb [(83, mkCallB z3v z6K m83f 1 F83f)] [] Tryd.f77 z3Y rs77f 2
theorem call77f {F83f : TF83f} (h83f : z0c Tryd.prog 83 (mkCallB z3v z6K m83f 1 F83f)) : z0c Tryd.prog 77 (mkCallB z3Y rs77f m77f 2 (F77f F83f)) :=
 z0w mixed z0v (Δ := [(83, mkCallB z3v z6K m83f 1 F83f)]) ⟨.inl h83f, trivial⟩ ⟨Tryd.func77, rfl, by kernel_rfl, by kernel_rfl, by kernel_rfl, by kernel_rfl, by kernel_rfl, by kernel_rfl, by kernel_rfl, by kernel_rfl, by kernel_rfl⟩ rfl (z0d (Λ := []) (cs := []) (by kernel_rfl) (by kernel_rfl) (by kernel_rfl) trivial)
abbrev z3X : Shape := ⟨[(0, .pt 0 0), (1, .d false .str)], [.box 119 [.np, .nl]]⟩
abbrev m78f : List Nat := [0]
abbrev rs78f : Shape := ⟨[(0, .pt 0 0), (1, .d false .str), (2, .d false tI), (3, .d false .ic)], [.box 119 [.pt 0 0, .rf 1], .row (.int .u8) 5]⟩
abbrev TF78f := z3X.den → Option rs78f.den
noncomputable def F78f (F83f : TF83f) : TF78f := z0U tb [(83, mkCallB z3v z6K m83f 1 F83f)] [] Tryd.f78 z3X rs78f 2
theorem call78f {F83f : TF83f} (h83f : z0c Tryd.prog 83 (mkCallB z3v z6K m83f 1 F83f)) : z0c Tryd.prog 78 (mkCallB z3X rs78f m78f 2 (F78f F83f)) :=
 z0w mixed z0v (Δ := [(83, mkCallB z3v z6K m83f 1 F83f)]) ⟨.inl h83f, trivial⟩ ⟨Tryd.func78, rfl, by kernel_rfl, by kernel_rfl, by kernel_rfl, by kernel_rfl, by kernel_rfl, by kernel_rfl, by kernel_rfl, by kernel_rfl, by kernel_rfl⟩ rfl (z0d (Λ := []) (cs := []) (by kernel_rfl) (by kernel_rfl) (by kernel_rfl) trivial)
abbrev z5E : Shape := ⟨[(0, .d false tR), (1, .pt 0 0)], [.box 119 [.np, .nl]]⟩
abbrev m61f : List Nat := [0]
abbrev rs61f : Shape := ⟨[(0, .d false tR), (1, .pt 0 0)], [.box 119 [.pt 0 0, .rf 1], .row (.int .u8) 5]⟩
abbrev TF61f := z5E.den → Option rs61f.den
noncomputable def F61f (F61u : TF61u) (F77f : TF77f) (F77u : TF77u) (F78f : TF78f) (F78u : TF78u) (F79u : TF79u) : TF61f := z0U tb [(61, mkCallB z3z z6O m61u 2 F61u), (77, orC (fitB z3Y) (mkCallB z3Y rs77f m77f 2 F77f) (mkCallB z3y z6N m77u 2 F77u)), (78, orC (fitB z3X) (mkCallB z3X rs78f m78f 2 F78f) (mkCallB z3x z6M m78u 2 F78u)), (79, mkCallB z3w z6L m79u 2 F79u)] [] Tryd.f61 z5E rs61f 2
theorem call61f {F61u : TF61u} {F77f : TF77f} {F77u : TF77u} {F78f : TF78f} {F78u : TF78u} {F79u : TF79u} (h61u : z0c Tryd.prog 61 (mkCallB z3z z6O m61u 2 F61u)) (h77f : z0c Tryd.prog 77 (mkCallB z3Y rs77f m77f 2 F77f)) (h77u : z0c Tryd.prog 77 (mkCallB z3y z6N m77u 2 F77u)) (h78f : z0c Tryd.prog 78 (mkCallB z3X rs78f m78f 2 F78f)) (h78u : z0c Tryd.prog 78 (mkCallB z3x z6M m78u 2 F78u)) (h79u : z0c Tryd.prog 79 (mkCallB z3w z6L m79u 2 F79u)) : z0c Tryd.prog 61 (mkCallB z5E rs61f m61f 2 (F61f F61u F77f F77u F78f F78u F79u)) :=
 z0w mixed z0v (Δ := [(61, mkCallB z3z z6O m61u 2 F61u), (77, orC (fitB z3Y) (mkCallB z3Y rs77f m77f 2 F77f) (mkCallB z3y z6N m77u 2 F77u)), (78, orC (fitB z3X) (mkCallB z3X rs78f m78f 2 F78f) (mkCallB z3x z6M m78u 2 F78u)), (79, mkCallB z3w z6L m79u 2 F79u)]) ⟨.inl h61u, .inl (orC_ok h77f h77u), .inl (orC_ok h78f h78u), .inl h79u, trivial⟩ ⟨Tryd.func61, rfl, by kernel_rfl, by kernel_rfl, by kernel_rfl, by kernel_rfl, by kernel_rfl, by kernel_rfl, by kernel_rfl, by kernel_rfl, by kernel_rfl⟩ rfl (z0d (Λ := []) (cs := []) (by kernel_rfl) (by kernel_rfl) (by kernel_rfl) trivial)
abbrev z5D : Shape := ⟨[(0, .pt 0 0)], [.box 119 [.pt 0 0, .rf 1], .row (.int .u8) 5]⟩
abbrev m62u : List Nat := []
abbrev rs62u : Shape := ⟨[(0, .pt 0 0), (1, .d false .str)], [.box 119 [.pt 0 0, .d false (.sl (.int .u8))]]⟩
abbrev TF62u := z5D.den → Option rs62u.den
noncomputable def F62u : TF62u := z0U tb [] [] Tryd.f62 z5D rs62u 1
theorem call62u : z0c Tryd.prog 62 (mkCallB z5D rs62u m62u 1 (F62u)) :=
 z0w mixed z0v (Δ := []) trivial ⟨Tryd.func62, rfl, by kernel_rfl, by kernel_rfl, by kernel_rfl, by kernel_rfl, by kernel_rfl, by kernel_rfl, by kernel_rfl, by kernel_rfl, by kernel_rfl⟩ rfl (z0d (Λ := []) (cs := []) (by kernel_rfl) (by kernel_rfl) (by kernel_rfl) trivial)
abbrev z5G : Shape := ⟨[(0, .pt 0 0)], [.box 108 [.d false tR, .d false tI, .mp 1], .map tI false tI]⟩
abbrev m36t : List Nat := [0]
abbrev rs36t : Shape := ⟨[(0, .pt 0 0), (1, .d false .str)], [.box 108 [.d false tR, .d false tI, .mp 1], .map tI false tI]⟩
abbrev TF36t := z5G.den → Option rs36t.den
noncomputable def F36t (F60t : TF60t) (F61f : TF61f) (F62u : TF62u) : TF36t := z0U tb [(60, mkCallB z5F rs60t m60t 1 F60t), (61, mkCallB z5E rs61f m61f 2 F61f), (62, mkCallB z5D rs62u m62u 1 F62u)] [] Tryd.f36 z5G rs36t 1
theorem call36t {F60t : TF60t} {F61f : TF61f} {F62u : TF62u} (h60t : z0c Tryd.prog 60 (mkCallB z5F rs60t m60t 1 F60t)) (h61f : z0c Tryd.prog 61 (mkCallB z5E rs61f m61f 2 F61f)) (h62u : z0c Tryd.prog 62 (mkCallB z5D rs62u m62u 1 F62u)) : z0c Tryd.prog 36 (mkCallB z5G rs36t m36t 1 (F36t F60t F61f F62u)) :=
 z0w mixed z0v (Δ := [(60, mkCallB z5F rs60t m60t 1 F60t), (61, mkCallB z5E rs61f m61f 2 F61f), (62, mkCallB z5D rs62u m62u 1 F62u)]) ⟨.inl h60t, .inl h61f, .inl h62u, trivial⟩ ⟨Tryd.func36, rfl, by kernel_rfl, by kernel_rfl, by kernel_rfl, by kernel_rfl, by kernel_rfl, by kernel_rfl, by kernel_rfl, by kernel_rfl, by kernel_rfl⟩ rfl (z0d (Λ := []) (cs := []) (by kernel_rfl) (by kernel_rfl) (by kernel_rfl) trivial)
abbrev ps48 : List SV := [.d false (.sl tI)]
abbrev rs48 : Shape := ⟨[(0, .d false tI)], []⟩
abbrev TF48 := SV.denL ps48 → Option rs48.den
abbrev z5r : Shape := ⟨[(5, .d false (.sl tI)), (6, .d false tI), (7, .d false tI)], []⟩
abbrev w48_2 : List Way := [(none, ⟨[(2, .d false tI)], []⟩), (some 0, ⟨[], []⟩)]
noncomputable def S48_2 : z5r.den → Option (z5r.den ⊕ denX w48_2) := z1w tb [] [] (upTo 15) Tryd.f48 2 z5r w48_2
noncomputable def F48 (g48_2 : z5r.den → Option (denX w48_2)) : TF48 := z1b tb [] [(2, lp z5r w48_2 g48_2)] Tryd.f48 ps48 rs48
theorem call48 {g48_2 : z5r.den → Option (denX w48_2)} (hg48_2 : Lim (S48_2) g48_2) : z0c Tryd.prog 48 (mkCall ps48 rs48 (F48 g48_2)) :=
 z0t mixed z0v (Δ := []) trivial ⟨Tryd.func48, rfl, by kernel_rfl, by kernel_rfl, by kernel_rfl, by kernel_rfl⟩ rfl (z0d (cs := [.loop (z0M Tryd.f48 2)]) (by kernel_rfl) (by kernel_rfl) (by kernel_rfl) ⟨z0y mixed z0v (Δ := []) trivial hg48_2 (z0d (Λ := []) (cs := []) (by kernel_rfl) (by kernel_rfl) (by kernel_rfl) trivial), trivial⟩)
abbrev ps49 : List SV := [.d false .bool, .d false tI]
abbrev rs49 : Shape := ⟨[(0, .d false tI)], []⟩
abbrev TF49 := SV.denL ps49 → Option rs49.den
noncomputable def F49 : TF49 := z1b tb [] [] Tryd.f49 ps49 rs49
theorem call49 : z0c Tryd.prog 49 (mkCall ps49 rs49 (F49)) :=
 z0t mixed z0v (Δ := []) trivial ⟨Tryd.func49, rfl, by kernel_rfl, by kernel_rfl, by kernel_rfl, by kernel_rfl⟩ rfl (z0d (Λ := []) (cs := []) (by kernel_rfl) (by kernel_rfl) (by kernel_rfl) trivial)
abbrev z5K : Shape := ⟨[(0, .pt 0 0), (1, .d true tIt)], [.box 90 [.rf 1, .d false tI], .row tEn 96]⟩
abbrev m13q : List Nat := [0]
abbrev rs13q : Shape := ⟨[(0, .pt 0 0), (1, .d true tIt), (2, .d false tI)], [.box 90 [.rf 1, .d false tI], .row tEn 96]⟩
abbrev TF13q := z5K.den → Option rs13q.den
abbrev z3I : Shape := ⟨[(0, .pt 0 0), (1, .d true tIt), (6, .d false tI)], [.box 90 [.rf 1, .d false tI], .row tEn 96]⟩
abbrev z7a : List Way := [(some 0, ⟨[(0, .pt 0 0), (1, .d true tIt)], [.box 90 [.rf 1, .d false tI], .row tEn 96]⟩)]
noncomputable def S13q_7 (F50 : TF50) : z3I.den → Option (z3I.den ⊕ denX z7a) := z1w tb [(50, mkCall ps50 rs50 F50)] [] (z1M (upTo 99) (z0C 0 2)) Tryd.f13 7 z3I z7a
noncomputable def F13q (F19q : TF19q) (F48 : TF48) (F49 : TF49) (g13q_7 : z3I.den → Option (denX z7a)) : TF13q := z0U tb [(19, mkCallB z3A z6R m19q 1 F19q), (48, mkCall ps48 rs48 F48), (49, mkCall ps49 rs49 F49)] [(7, lp z3I z7a g13q_7)] Tryd.f13 z5K rs13q 2
theorem call13q {F19q : TF19q} {F48 : TF48} {F49 : TF49} {F50 : TF50} {g13q_7 : z3I.den → Option (denX z7a)} (h19q : z0c Tryd.prog 19 (mkCallB z3A z6R m19q 1 F19q)) (h48 : z0c Tryd.prog 48 (mkCall ps48 rs48 F48)) (h49 : z0c Tryd.prog 49 (mkCall ps49 rs49 F49)) (h50 : z0c Tryd.prog 50 (mkCall ps50 rs50 F50)) (hg13q_7 : Lim (S13q_7 F50) g13q_7) : z0c Tryd.prog 13 (mkCallB z5K rs13q m13q 2 (F13q F19q F48 F49 g13q_7)) :=
 z0w mixed z0v (Δ := [(19, mkCallB z3A z6R m19q 1 F19q), (48, mkCall ps48 rs48 F48), (49, mkCall ps49 rs49 F49)]) ⟨.inl h19q, .inl h48, .inl h49, trivial⟩ ⟨Tryd.func13, rfl, by kernel_rfl, by kernel_rfl, by kernel_rfl, by kernel_rfl, by kernel_rfl, by kernel_rfl, by kernel_rfl, by kernel_rfl, by kernel_rfl⟩ rfl (z0d (cs := [.loop (z0M Tryd.f13 7)]) (by kernel_rfl) (by kernel_rfl) (by kernel_rfl) ⟨z0y mixed z0v (Δ := [(50, mkCall ps50 rs50 F50)]) ⟨.inl h50, trivial⟩ hg13q_7 (z0d (Λ := []) (cs := []) (by kernel_rfl) (by kernel_rfl) (by kernel_rfl) trivial), trivial⟩)
abbrev ps10 : List SV := []
abbrev rs10 : Shape := ⟨[(0, .d false .bool)], []⟩
abbrev TF10 := SV.denL ps10 → Option rs10.den
abbrev z5s : Shape := ⟨[(2, .pt 0 0), (36, .d false (.sl tIt)), (37, .d false tI), (38, .d false tI)], [.box 90 [.rf 1, .d false tI], .row tEn 96]⟩
abbrev w10_6 : List Way := [(none, ⟨[(0, .d false .bool)], []⟩), (some 0, ⟨[(2, .pt 0 0)], [.box 90 [.rf 1, .d false tI], .row tEn 96]⟩)]
noncomputable def S10_6 (F13q : TF13q) : z5s.den → Option (z5s.den ⊕ denX w10_6) := z1w tb [(13, mkCallB z5K rs13q m13q 2 F13q)] [] (upTo 97) Tryd.f10 6 z5s w10_6
noncomputable def F10 (F11 : TF11) (F15q : TF15q) (F22 : TF22) (F25 : TF25) (F28 : TF28) (F30 : TF30) (F34 : TF34) (F35t : TF35t) (F36t : TF36t) (g10_6 : z5s.den → Option (denX w10_6)) : TF10 := z1b tb [(11, mkCall ps11 rs11 F11), (15, mkCallB z5J rs15q m15q 1 F15q), (22, mkCall ps22 rs22 F22), (25, mkCall ps25 rs25 F25), (28, mkCall ps28 rs28 F28), (30, mkCall ps30 rs30 F30), (34, mkCall ps34 rs34 F34), (35, mkCallB z5H rs35t m35t 3 F35t), (36, mkCallB z5G rs36t m36t 1 F36t)] [(6, lp z5s w10_6 g10_6)] Tryd.f10 ps10 rs10
theorem call10 {F11 : TF11} {F13q : TF13q} {F15q : TF15q} {F22 : TF22} {F25 : TF25} {F28 : TF28} {F30 : TF30} {F34 : TF34} {F35t : TF35t} {F36t : TF36t} {g10_6 : z5s.den → Option (denX w10_6)} (h11 : z0c Tryd.prog 11 (mkCall ps11 rs11 F11)) (h13q : z0c Tryd.prog 13 (mkCallB z5K rs13q m13q 2 F13q)) (h15q : z0c Tryd.prog 15 (mkCallB z5J rs15q m15q 1 F15q)) (h22 : z0c Tryd.prog 22 (mkCall ps22 rs22 F22)) (h25 : z0c Tryd.prog 25 (mkCall ps25 rs25 F25)) (h28 : z0c Tryd.prog 28 (mkCall ps28 rs28 F28)) (h30 : z0c Tryd.prog 30 (mkCall ps30 rs30 F30)) (h34 : z0c Tryd.prog 34 (mkCall ps34 rs34 F34)) (h35t : z0c Tryd.prog 35 (mkCallB z5H rs35t m35t 3 F35t)) (h36t : z0c Tryd.prog 36 (mkCallB z5G rs36t m36t 1 F36t)) (hg10_6 : Lim (S10_6 F13q) g10_6) : z0c Tryd.prog 10 (mkCall ps10 rs10 (F10 F11 F15q F22 F25 F28 F30 F34 F35t F36t g10_6)) :=
 z0t mixed z0v (Δ := [(11, mkCall ps11 rs11 F11), (15, mkCallB z5J rs15q m15q 1 F15q), (22, mkCall ps22 rs22 F22), (25, mkCall ps25 rs25 F25), (28, mkCall ps28 rs28 F28), (30, mkCall ps30 rs30 F30), (34, mkCall ps34 rs34 F34), (35, mkCallB z5H rs35t m35t 3 F35t), (36, mkCallB z5G rs36t m36t 1 F36t)]) ⟨.inl h11, .inl h15q, .inl h22, .inl h25, .inl h28, .inl h30, .inl h34, .inl h35t, .inl h36t, trivial⟩ ⟨Tryd.func10, rfl, by kernel_rfl, by kernel_rfl, by kernel_rfl, by kernel_rfl⟩ rfl (z0d (cs := [.loop (z0M Tryd.f10 6)]) (by kernel_rfl) (by kernel_rfl) (by kernel_rfl) ⟨z0y mixed z0v (Δ := [(13, mkCallB z5K rs13q m13q 2 F13q)]) ⟨.inl h13q, trivial⟩ hg10_6 (z0d (Λ := []) (cs := []) (by kernel_rfl) (by kernel_rfl) (by kernel_rfl) trivial), trivial⟩)
abbrev ps12 : List SV := []
abbrev rs12 : Shape := ⟨[(0, .pt 0 0)], [.box 92 [.d false (.sl tIt)]]⟩
abbrev TF12 := SV.denL ps12 → Option rs12.den
noncomputable def F12 : TF12 := z1b tb [] [] Tryd.f12 ps12 rs12
abbrev ps24 : List SV := [.d false (.sl tIt)]
abbrev rs24 : Shape := ⟨[(0, .d false (.sl tIt))], []⟩
abbrev TF24 := SV.denL ps24 → Option rs24.den
abbrev sh24_3 : Shape := ⟨[(0, .d false (.sl tIt)), (3, .rf 0), (4, .d false tI)], [.row tIt 35]⟩
abbrev w24_3 : List Way := [(some 0, ⟨[(3, .rf 0)], [.row tIt 35]⟩)]
noncomputable def F24 (g24_3 : sh24_3.den → Option (denX w24_3)) : TF24 := z1b tb [] [(3, lp sh24_3 w24_3 g24_3)] Tryd.f24 ps24 rs24
abbrev ps3 : List SV := [.d false (.sl (.pr tI tIt)), .d false .bool]
abbrev rs3 : Shape := ⟨[(0, .d false .bool)], []⟩
abbrev TF3 := SV.denL ps3 → Option rs3.den
abbrev sh3_7 : Shape := ⟨[(5, .np), (6, .np), (24, .d false (.sl (.pr tI tIt))), (25, .d false tI), (26, .d false tI)], []⟩
abbrev w3_7 : List Way := [(none, ⟨[(4, .d false .bool)], []⟩), (some 0, ⟨[], []⟩)]
abbrev sh3_7v1 : Shape := ⟨[(5, .pt 0 0), (6, .pt 1 0), (24, .d false (.sl (.pr tI tIt))), (25, .d false tI), (26, .d false tI)], [.box 90 [.rf 2, .d false tI], .box 92 [.d false (.sl tIt)], .row tEn 96]⟩
abbrev w3_7v1 : List Way := [(none, ⟨[(4, .d false .bool)], []⟩), (some 0, ⟨[], []⟩)]
noncomputable def F3 (F10 : TF10) (F11 : TF11) (F12 : TF12) (g3_7 : sh3_7.den → Option (denX w3_7)) (g3_7v1 : sh3_7v1.den → Option (denX w3_7v1)) : TF3 := z1b tb [(10, mkCall ps10 rs10 F10), (11, mkCall ps11 rs11 F11), (12, mkCall ps12 rs12 F12)] [(7, orL (fitL sh3_7) (lp sh3_7 w3_7 g3_7) (lp sh3_7v1 w3_7v1 g3_7v1))] Tryd.f3 ps3 rs3
abbrev ps54 : List SV := [.d false (.sl tIt)]
abbrev rs54 : Shape := ⟨[(0, .d false .bool)], []⟩
abbrev TF54 := SV.denL ps54 → Option rs54.den
abbrev sh54_2 : Shape := ⟨[(0, .d false (.sl tIt)), (3, .d false tI)], []⟩
abbrev w54_2 : List Way := [(none, ⟨[(2, .d false .bool)], []⟩), (some 0, ⟨[], []⟩)]
noncomputable def F54 (g54_2 : sh54_2.den → Option (denX w54_2)) : TF54 := z1b tb [] [(2, lp sh54_2 w54_2 g54_2)] Tryd.f54 ps54 rs54
abbrev ps23 : List SV := [.d false (.sl tIt), .d false (.sl tIt)]
abbrev rs23 : Shape := ⟨[(0, .d false (.sl tIt)), (1, .d false tI)], []⟩
abbrev TF23 := SV.denL ps23 → Option rs23.den
noncomputable def F23 (F24 : TF24) (F54 : TF54) : TF23 := z1b tb [(24, mkCall ps24 rs24 F24), (54, mkCall ps54 rs54 F54)] [] Tryd.f23 ps23 rs23
abbrev z2p : Shape := ⟨[(0, .rf 0), (1, .d false tI)], [.row tIt 33]⟩
abbrev m55r : List Nat := [0]
abbrev z6Q : Shape := ⟨[(0, .rf 0)], [.row tIt 33]⟩
abbrev TF55r := z2p.den → Option z6Q.den
abbrev z2B : Shape := ⟨[(0, .rf 0), (1, .d false tI), (4, .d false tI), (8, .d false tI)], [.row tIt 33]⟩
abbrev z4O : List Way := [(some 2, ⟨[(0, .rf 0), (1, .d false tI), (4, .d false tI)], [.row tIt 33]⟩)]
abbrev z2C : Shape := ⟨[(0, .rf 0), (1, .d false tI)], [.row tIt 33]⟩
abbrev z4P : List Way := [(some 0, ⟨[(0, .rf 0)], [.row tIt 33]⟩)]
noncomputable def z6s (F53 : TF53) : z2B.den → Option (z2B.den ⊕ denX z4O) := z1w tb [(53, mkCall ps53 rs53 F53)] [] (z1M (upTo 51) (z0C 0 1)) Tryd.f55 2 z2B z4O
noncomputable def S55r_0 (g55r_2 : z2B.den → Option (denX z4O)) : z2C.den → Option (z2C.den ⊕ denX z4P) := z1w tb [] [(2, lp z2B z4O g55r_2)] (z1M (upTo 51) (z0C 0 1)) Tryd.f55 0 z2C z4P
noncomputable def F55r (g55r_0 : z2C.den → Option (denX z4P)) : TF55r := z0U tb [] [(0, lp z2C z4P g55r_0)] Tryd.f55 z2p z6Q 1
theorem call55r {F53 : TF53} {g55r_2 : z2B.den → Option (denX z4O)} {g55r_0 : z2C.den → Option (denX z4P)} (h53 : z0c Tryd.prog 53 (mkCall ps53 rs53 F53)) (hg55r_2 : Lim (z6s F53) g55r_2) (hg55r_0 : Lim (S55r_0 g55r_2) g55r_0) : z0c Tryd.prog 55 (mkCallB z2p z6Q m55r 1 (F55r g55r_0)) :=
 z0w mixed z0v (Δ := []) trivial ⟨Tryd.func55, rfl, by kernel_rfl, by kernel_rfl, by kernel_rfl, by kernel_rfl, by kernel_rfl, by kernel_rfl, by kernel_rfl, by kernel_rfl, by kernel_rfl⟩ rfl (z0d (cs := [.loop (z0M Tryd.f55 0)]) (by kernel_rfl) (by kernel_rfl) (by kernel_rfl) ⟨z0y mixed z0v (Δ := []) trivial hg55r_0 (z0d (cs := [.loop (z0M Tryd.f55 2)]) (by kernel_rfl) (by kernel_rfl) (by kernel_rfl) ⟨z0y mixed z0v (Δ := [(53, mkCall ps53 rs53 F53)]) ⟨.inl h53, trivial⟩ hg55r_2 (z0d (Λ := []) (cs := []) (by kernel_rfl) (by kernel_rfl) (by kernel_rfl) trivial), trivial⟩), trivial⟩)
abbrev z3Z : Shape := ⟨[(0, .rz 0 2), (1, .d false tI)], [.row tIt 33]⟩
abbrev m55s : List Nat := [0]
abbrev z6P : Shape := ⟨[(0, .rz 0 2)], [.row tIt 33]⟩
abbrev TF55s := z3Z.den → Option z6P.den
abbrev z2z : Shape := ⟨[(0, .rz 0 2), (1, .d false tI), (4, .d false tI), (8, .d false tI)], [.row tIt 33]⟩
abbrev z4M : List Way := [(some 2, ⟨[(0, .rz 0 2), (1, .d false tI), (4, .d false tI)], [.row tIt 33]⟩)]
abbrev z2A : Shape := ⟨[(0, .rz 0 2), (1, .d false tI)], [.row tIt 33]⟩
abbrev z4N : List Way := [(some 0, ⟨[(0, .rz 0 2)], [.row tIt 33]⟩)]
noncomputable def z6q (F53 : TF53) : z2z.den → Option (z2z.den ⊕ denX z4M) := z1w tb [(53, mkCall ps53 rs53 F53)] [] (z1M (upTo 51) (z0C 0 1)) Tryd.f55 2 z2z z4M
noncomputable def S55s_0 (g55s_2 : z2z.den → Option (denX z4M)) : z2A.den → Option (z2A.den ⊕ denX z4N) := z1w tb [] [(2, lp z2z z4M g55s_2)] (z1M (upTo 51) (z0C 0 1)) Tryd.f55 0 z2A z4N
noncomputable def F55s (g55s_0 : z2A.den → Option (denX z4N)) : TF55s := z0U tb [] [(0, lp z2A z4N g55s_0)] Tryd.f55 z3Z z6P 1
theorem call55s {F53 : TF53} {g55s_2 : z2z.den → Option (denX z4M)} {g55s_0 : z2A.den → Option (denX z4N)} (h53 : z0c Tryd.prog 53 (mkCall ps53 rs53 F53)) (hg55s_2 : Lim (z6q F53) g55s_2) (hg55s_0 : Lim (S55s_0 g55s_2) g55s_0) : z0c Tryd.prog 55 (mkCallB z3Z z6P m55s 1 (F55s g55s_0)) :=
 z0w mixed z0v (Δ := []) trivial ⟨Tryd.func55, rfl, by kernel_rfl, by kernel_rfl, by kernel_rfl, by kernel_rfl, by kernel_rfl, by kernel_rfl, by kernel_rfl, by kernel_rfl, by kernel_rfl⟩ rfl (z0d (cs := [.loop (z0M Tryd.f55 0)]) (by kernel_rfl) (by kernel_rfl) (by kernel_rfl) ⟨z0y mixed z0v (Δ := []) trivial hg55s_0 (z0d (cs := [.loop (z0M Tryd.f55 2)]) (by kernel_rfl) (by kernel_rfl) (by kernel_rfl) ⟨z0y mixed z0v (Δ := [(53, mkCall ps53 rs53 F53)]) ⟨.inl h53, trivial⟩ hg55s_2 (z0d (Λ := []) (cs := []) (by kernel_rfl) (by kernel_rfl) (by kernel_rfl) trivial), trivial⟩), trivial⟩)
abbrev ps26 : List SV := [.d false (.sl tIt)]
abbrev rs26 : Shape := ⟨[(0, .d false (.sl tIt))], []⟩
abbrev TF26 := SV.denL ps26 → Option rs26.den
abbrev z3Q : Shape := ⟨[(3, .rf 0), (14, .d false tI), (15, .d false tI)], [.row tIt 33]⟩
abbrev w26_4 : List Way := [(some 0, ⟨[(3, .rf 0)], [.row tIt 33]⟩)]
abbrev z3P : Shape := ⟨[(3, .rf 0), (5, .d false tI)], [.row tIt 33]⟩
abbrev w26_9 : List Way := [(some 2, ⟨[(3, .rf 0)], [.row tIt 33]⟩)]
noncomputable def S26_4 (F55r : TF55r) (F55s : TF55s) : z3Q.den → Option (z3Q.den ⊕ denX w26_4) := z1w tb [(55, orC (fitB z2p) (mkCallB z2p z6Q m55r 1 F55r) (mkCallB z3Z z6P m55s 1 F55s))] [] (upTo 51) Tryd.f26 4 z3Q w26_4
noncomputable def S26_9 (F55r : TF55r) (F55s : TF55s) : z3P.den → Option (z3P.den ⊕ denX w26_9) := z1w tb [(55, orC (fitB z2p) (mkCallB z2p z6Q m55r 1 F55r) (mkCallB z3Z z6P m55s 1 F55s))] [] (upTo 51) Tryd.f26 9 z3P w26_9
noncomputable def F26 (g26_4 : z3Q.den → Option (denX w26_4)) (g26_9 : z3P.den → Option (denX w26_9)) : TF26 := z1b tb [] [(4, lp z3Q w26_4 g26_4), (9, lp z3P w26_9 g26_9)] Tryd.f26 ps26 rs26
theorem call26 {F55r : TF55r} {F55s : TF55s} {g26_4 : z3Q.den → Option (denX w26_4)} {g26_9 : z3P.den → Option (denX w26_9)} (h55r : z0c Tryd.prog 55 (mkCallB z2p z6Q m55r 1 F55r)) (h55s : z0c Tryd.prog 55 (mkCallB z3Z z6P m55s 1 F55s)) (hg26_4 : Lim (S26_4 F55r F55s) g26_4) (hg26_9 : Lim (S26_9 F55r F55s) g26_9) : z0c Tryd.prog 26 (mkCall ps26 rs26 (F26 g26_4 g26_9)) :=
 z0t mixed z0v (Δ := []) trivial ⟨Tryd.func26, rfl, by kernel_rfl, by kernel_rfl, by kernel_rfl, by kernel_rfl⟩ rfl (z0d (cs := [.loop (z0M Tryd.f26 4), .loop (z0M Tryd.f26 9)]) (by kernel_rfl) (by kernel_rfl) (by kernel_rfl) ⟨z0y mixed z0v (Δ := [(55, orC (fitB z2p) (mkCallB z2p z6Q m55r 1 F55r) (mkCallB z3Z z6P m55s 1 F55s))]) ⟨.inl (orC_ok h55r h55s), trivial⟩ hg26_4 (z0d (Λ := []) (cs := []) (by kernel_rfl) (by kernel_rfl) (by kernel_rfl) trivial), z0y mixed z0v (Δ := [(55, orC (fitB z2p) (mkCallB z2p z6Q m55r 1 F55r) (mkCallB z3Z z6P m55s 1 F55s))]) ⟨.inl (orC_ok h55r h55s), trivial⟩ hg26_9 (z0d (Λ := []) (cs := []) (by kernel_rfl) (by kernel_rfl) (by kernel_rfl) trivial), trivial⟩)
abbrev ps5 : List SV := [.d false (.sl tIt)]
abbrev rs5 : Shape := ⟨[(0, .d false .bool)], []⟩
abbrev TF5 := SV.denL ps5 → Option rs5.den
abbrev sh5_9 : Shape := ⟨[(3, .d false (.sl tIt)), (4, .d false (.sl tIt)), (5, .mp 0), (30, .d false (.sl tIt)), (31, .d false tI), (32, .d false tI)], [.map tIt false tI]⟩
abbrev w5_9 : List Way := [(none, ⟨[(2, .d false .bool)], []⟩), (some 0, ⟨[(5, .mp 0)], [.map tIt false tI]⟩)]
abbrev z2N : Shape := ⟨[(67, .pt 0 0)], [.mi tIt false tI]⟩
abbrev w5_17 : List Way := [(none, ⟨[(2, .d false .bool)], []⟩), (some 2, ⟨[], []⟩)]
noncomputable def S5_9 : sh5_9.den → Option (sh5_9.den ⊕ denX w5_9) := z1w tb [] [] (upTo 75) Tryd.f5 9 sh5_9 w5_9
noncomputable def S5_17 : z2N.den → Option (((Int × Int) × Int) × List ((Int × Int) × Int)) → Option (z2N.den ⊕ denX w5_17) := stepFnM tb [] [] (upTo 75) Tryd.f5 17 tIt tI z2N w5_17
noncomputable def L5_17 : z2N.den → Option (List ((Int × Int) × Int)) := z5b tIt tI z2N (z0M Tryd.f5 17)
noncomputable def F5 (F10 : TF10) (F22 : TF22) (F25 : TF25) (F26 : TF26) (g5_9 : sh5_9.den → Option (denX w5_9)) (g5_17 : z2N.den → Option (denX w5_17)) : TF5 := z1b tb [(10, mkCall ps10 rs10 F10), (22, mkCall ps22 rs22 F22), (25, mkCall ps25 rs25 F25), (26, mkCall ps26 rs26 F26)] [(9, lp sh5_9 w5_9 g5_9), (17, lp z2N w5_17 g5_17)] Tryd.f5 ps5 rs5
theorem call5 {F10 : TF10} {F22 : TF22} {F25 : TF25} {F26 : TF26} {g5_9 : sh5_9.den → Option (denX w5_9)} {g5_17 : z2N.den → Option (denX w5_17)} (h10 : z0c Tryd.prog 10 (mkCall ps10 rs10 F10)) (h22 : z0c Tryd.prog 22 (mkCall ps22 rs22 F22)) (h25 : z0c Tryd.prog 25 (mkCall ps25 rs25 F25)) (h26 : z0c Tryd.prog 26 (mkCall ps26 rs26 F26)) (hg5_9 : Lim (S5_9) g5_9) (hg5_17 : LimM L5_17 (S5_17) g5_17) : z0c Tryd.prog 5 (mkCall ps5 rs5 (F5 F10 F22 F25 F26 g5_9 g5_17)) :=
 z0t mixed z0v (Δ := [(10, mkCall ps10 rs10 F10), (22, mkCall ps22 rs22 F22), (25, mkCall ps25 rs25 F25), (26, mkCall ps26 rs26 F26)]) ⟨.inl h10, .inl h22, .inl h25, .inl h26, trivial⟩ ⟨Tryd.func5, rfl, by kernel_rfl, by kernel_rfl, by kernel_rfl, by kernel_rfl⟩ rfl (z0d (cs := [.loop (z0M Tryd.f5 9), .loop (z0M Tryd.f5 17)]) (by kernel_rfl) (by kernel_rfl) (by kernel_rfl) ⟨z0y mixed z0v (Δ := []) trivial hg5_9 (z0d (Λ := []) (cs := []) (by kernel_rfl) (by kernel_rfl) (by kernel_rfl) trivial), stepLimM_ok mixed z0v (Δ := []) trivial hg5_17 (z0d (Λ := []) (cs := []) (by kernel_rfl) (by kernel_rfl) (by kernel_rfl) trivial), trivial⟩)
end Go.Proofs.Rf
set_option linter.unusedVariables false
namespace Go.Proofs.Rf
open Go Go.RowKit
theorem S22_3_eq (t6 : List (Int × Int)) (t7 : Int) (t8 : Int) (rw0 : List (Int × Int)) : S22_3 (((), t6, t7, t8, ()), (rw0, ())) = (if decide (t8 < t7) = true then if 0 ≤ t8 then if t8 < (↑t6.length : Int) then if rw0.length + [((t6.getD t8.toNat (0, 0)).1, (t6.getD t8.toNat (0, 0)).2)].length ≤ 4294967296 then some (Sum.inl (((), t6, t7, IntKind.i64.wrap (t8 + 1), ()), rw0 ++ [((t6.getD t8.toNat (0, 0)).1, (t6.getD t8.toNat (0, 0)).2)], ())) else none else none else none else some (Sum.inr (((), ()), rw0, ())) : Option (z3s.den ⊕ denX w22_3)) := by kernel_rfl
theorem F22_eq (g22_3 : z3s.den → Option (denX w22_3)) (l0 : List (Int × Int)) : F22 g22_3 (l0, ()) = ((g22_3 (((), l0, (↑l0.length : Int), 0, ()), [], ())).bind fun y => some ((y.2.1, ()), ()) : Option rs22.den) := by kernel_rfl
theorem S25_4_eq (b1 : List (Int × Int)) (t12 : List (Int × Int)) (t13 : Int) (t14 : Int) : S25_4 ((b1, t12, t13, t14, ()), ()) = (if decide (t14 < t13) = true then if 0 ≤ t14 then if t14 < (↑t12.length : Int) then if 0 ≤ t14 then if t14 < (↑b1.length : Int) then if (!((t12.getD t14.toNat (0, 0)).1 == (b1.getD t14.toNat (0, 0)).1 && ((t12.getD t14.toNat (0, 0)).2 == (b1.getD t14.toNat (0, 0)).2 && true))) = true then some (Sum.inr (Sum.inl ((false, ()), ()))) else some (Sum.inl ((b1, t12, t13, IntKind.i64.wrap (t14 + 1), ()), ())) else none else none else none else none else some (Sum.inr (Sum.inr ((), ()))) : Option (z3r.den ⊕ denX w25_4)) := by kernel_rfl
theorem F25_eq (g25_4 : z3r.den → Option (denX w25_4)) (a0 : List (Int × Int)) (b1 : List (Int × Int)) : F25 g25_4 (a0, b1, ()) = (if (!(↑a0.length : Int) == (↑b1.length : Int)) = true then some ((false, ()), ()) else (g25_4 ((b1, a0, (↑a0.length : Int), 0, ()), ())).bind fun y => Sum.elim (fun y => some ((y.1.1, ()), ())) (fun z => some ((true, ()), ())) y : Option rs25.den) := by kernel_rfl
theorem F53_eq (x0_0 : Int) (x0_1 : Int) (y1_0 : Int) (y1_1 : Int) : F53 ((x0_0, x0_1), (y1_0, y1_1), ()) = (some ((decide (x0_0 < y1_0), ()), ()) : Option rs53.den) := by kernel_rfl
theorem S55r_2_eq (F53 : TF53) (at1 : Int) (top4 : Int) (t8 : Int) (rw0 : List (Int × Int)) : z6s F53 (((), at1, top4, t8, ()), (rw0, ())) = (if decide (t8 < 2) = true then if decide (IntKind.i64.wrap (IntKind.i64.wrap (IntKind.i64.wrap (2 * at1) + 1) + t8) < (↑rw0.length : Int)) = true then if 0 ≤ top4 then if top4 < (↑rw0.length : Int) then if 0 ≤ IntKind.i64.wrap (IntKind.i64.wrap (IntKind.i64.wrap (2 * at1) + 1) + t8) then if IntKind.i64.wrap (IntKind.i64.wrap (IntKind.i64.wrap (2 * at1) + 1) + t8) < (↑rw0.length : Int) then (F53 (((rw0.getD top4.toNat (0, 0)).1, (rw0.getD top4.toNat (0, 0)).2), ((rw0.getD (IntKind.i64.wrap (IntKind.i64.wrap (IntKind.i64.wrap (2 * at1) + 1) + t8)).toNat (0, 0)).1, (rw0.getD (IntKind.i64.wrap (IntKind.i64.wrap (IntKind.i64.wrap (2 * at1) + 1) + t8)).toNat (0, 0)).2), ())).bind fun y => if y.1.1 = true then some (Sum.inl (((), at1, IntKind.i64.wrap (IntKind.i64.wrap (IntKind.i64.wrap (2 * at1) + 1) + t8), IntKind.i64.wrap (t8 + 1), ()), rw0, ())) else some (Sum.inl (((), at1, top4, IntKind.i64.wrap (t8 + 1), ()), rw0, ())) else none else none else none else none else some (Sum.inl (((), at1, top4, IntKind.i64.wrap (t8 + 1), ()), rw0, ())) else some (Sum.inr (((), at1, top4, ()), rw0, ())) : Option (z2B.den ⊕ denX z4O)) := by kernel_rfl
theorem S55r_0_eq (g55r_2 : z2B.den → Option (denX z4O)) (at1 : Int) (rw0 : List (Int × Int)) : S55r_0 g55r_2 (((), at1, ()), (rw0, ())) = ((g55r_2 (((), at1, at1, 0, ()), rw0, ())).bind fun y => if (y.1.2.2.1 == y.1.2.1) = true then some (Sum.inr (((), ()), y.2.1, ())) else if 0 ≤ y.1.2.2.1 then if y.1.2.2.1 < (↑(List.length y.2.1) : Int) then if 0 ≤ y.1.2.1 then if y.1.2.1 < (↑(List.length y.2.1) : Int) then if 0 ≤ y.1.2.1 then if y.1.2.1 < (↑(List.length y.2.1) : Int) then if 0 ≤ y.1.2.2.1 then if y.1.2.2.1 < (↑(List.set y.2.1 (Int.toNat y.1.2.1) ((List.getD y.2.1 (Int.toNat y.1.2.2.1) (0, 0)).1, (List.getD y.2.1 (Int.toNat y.1.2.2.1) (0, 0)).2)).length : Int) then some (Sum.inl (((), y.1.2.2.1, ()), (List.set y.2.1 (Int.toNat y.1.2.1) ((List.getD y.2.1 (Int.toNat y.1.2.2.1) (0, 0)).1, (List.getD y.2.1 (Int.toNat y.1.2.2.1) (0, 0)).2)).set (Int.toNat y.1.2.2.1) ((List.getD y.2.1 (Int.toNat y.1.2.1) (0, 0)).1, (List.getD y.2.1 (Int.toNat y.1.2.1) (0, 0)).2), ())) else none else none else none else none else none else none else none else none : Option (z2C.den ⊕ denX z4P)) := by kernel_rfl
theorem F55r_eq (g55r_0 : z2C.den → Option (denX z4P)) (at1 : Int) (rw0 : List (Int × Int)) : F55r g55r_0 (((), at1, ()), (rw0, ())) = (((g55r_0 (((), at1, ()), rw0, ())).bind fun y => some (((), ()), y.2.1, ())).bind fun z => some z : Option z6Q.den) := by kernel_rfl
theorem S55s_2_eq (F53 : TF53) (l0l : Nat) (at1 : Int) (top4 : Int) (t8 : Int) (rw0 : List (Int × Int)) : z6q F53 ((l0l, at1, top4, t8, ()), (rw0, ())) = (if decide (t8 < 2) = true then if decide (IntKind.i64.wrap (IntKind.i64.wrap (IntKind.i64.wrap (2 * at1) + 1) + t8) < (↑l0l : Int)) = true then if 0 ≤ top4 then if top4 < (↑l0l : Int) then if 0 ≤ IntKind.i64.wrap (IntKind.i64.wrap (IntKind.i64.wrap (2 * at1) + 1) + t8) then if IntKind.i64.wrap (IntKind.i64.wrap (IntKind.i64.wrap (2 * at1) + 1) + t8) < (↑l0l : Int) then (F53 (((rw0.getD (0 + top4.toNat) (0, 0)).1, (rw0.getD (0 + top4.toNat) (0, 0)).2), ((rw0.getD (0 + (IntKind.i64.wrap (IntKind.i64.wrap (IntKind.i64.wrap (2 * at1) + 1) + t8)).toNat) (0, 0)).1, (rw0.getD (0 + (IntKind.i64.wrap (IntKind.i64.wrap (IntKind.i64.wrap (2 * at1) + 1) + t8)).toNat) (0, 0)).2), ())).bind fun y => if y.1.1 = true then some (Sum.inl ((l0l, at1, IntKind.i64.wrap (IntKind.i64.wrap (IntKind.i64.wrap (2 * at1) + 1) + t8), IntKind.i64.wrap (t8 + 1), ()), rw0, ())) else some (Sum.inl ((l0l, at1, top4, IntKind.i64.wrap (t8 + 1), ()), rw0, ())) else none else none else none else none else some (Sum.inl ((l0l, at1, top4, IntKind.i64.wrap (t8 + 1), ()), rw0, ())) else some (Sum.inr ((l0l, at1, top4, ()), rw0, ())) : Option (z2z.den ⊕ denX z4M)) := by kernel_rfl
theorem S55s_0_eq (g55s_2 : z2z.den → Option (denX z4M)) (l0l : Nat) (at1 : Int) (rw0 : List (Int × Int)) : S55s_0 g55s_2 ((l0l, at1, ()), (rw0, ())) = ((g55s_2 ((l0l, at1, at1, 0, ()), rw0, ())).bind fun y => if (y.1.2.2.1 == y.1.2.1) = true then some (Sum.inr ((y.1.1, ()), y.2.1, ())) else if 0 ≤ y.1.2.2.1 then if y.1.2.2.1 < (↑y.1.1 : Int) then if 0 ≤ y.1.2.1 then if y.1.2.1 < (↑y.1.1 : Int) then if 0 ≤ y.1.2.1 then if y.1.2.1 < (↑y.1.1 : Int) then if 0 ≤ y.1.2.2.1 then if y.1.2.2.1 < (↑y.1.1 : Int) then some (Sum.inl ((y.1.1, y.1.2.2.1, ()), (List.set y.2.1 (0 + Int.toNat y.1.2.1) ((List.getD y.2.1 (0 + Int.toNat y.1.2.2.1) (0, 0)).1, (List.getD y.2.1 (0 + Int.toNat y.1.2.2.1) (0, 0)).2)).set (0 + Int.toNat y.1.2.2.1) ((List.getD y.2.1 (0 + Int.toNat y.1.2.1) (0, 0)).1, (List.getD y.2.1 (0 + Int.toNat y.1.2.1) (0, 0)).2), ())) else none else none else none else none else none else none else none else none : Option (z2A.den ⊕ denX z4N)) := by kernel_rfl
theorem F55s_eq (g55s_0 : z2A.den → Option (denX z4N)) (l0l : Nat) (at1 : Int) (rw0 : List (Int × Int)) : F55s g55s_0 ((l0l, at1, ()), (rw0, ())) = (((g55s_0 ((l0l, at1, ()), rw0, ())).bind fun y => some ((y.1.1, ()), y.2.1, ())).bind fun z => if (rw0.length.beq (List.length z.2.1) && true) = true then some z else none : Option z6P.den) := by kernel_rfl
theorem S26_4_eq (F55r : TF55r) (F55s : TF55s) (t14 : Int) (t15 : Int) (rw0 : List (Int × Int)) : S26_4 F55r F55s (((), t14, t15, ()), (rw0, ())) = (if decide (t15 < t14) = true then (F55r (((), IntKind.i64.wrap (IntKind.i64.wrap (IntKind.i64.wrap ((↑rw0.length : Int).tdiv 2) - 1) - t15), ()), rw0, ())).bind fun z => some (Sum.inl (((), t14, IntKind.i64.wrap (t15 + 1), ()), z.2.1, ())) else some (Sum.inr (((), ()), rw0, ())) : Option (z3Q.den ⊕ denX w26_4)) := by kernel_rfl
theorem S26_9_eq (F55r : TF55r) (F55s : TF55s) (n5 : Int) (rw0 : List (Int × Int)) : S26_9 F55r F55s (((), n5, ()), (rw0, ())) = (if decide (n5 > 0) = true then if 0 ≤ n5 then if n5 < (↑rw0.length : Int) then if 0 < (↑rw0.length : Int) then if 0 < (↑rw0.length : Int) then if 0 ≤ n5 then if n5 < (↑(rw0.set 0 ((rw0.getD n5.toNat (0, 0)).1, (rw0.getD n5.toNat (0, 0)).2)).length : Int) then if 0 ≤ n5 then if n5 ≤ (↑((rw0.set 0 ((rw0.getD n5.toNat (0, 0)).1, (rw0.getD n5.toNat (0, 0)).2)).set n5.toNat ((rw0.getD 0 (0, 0)).1, (rw0.getD 0 (0, 0)).2)).length : Int) then (F55s ((n5.toNat - 0, 0, ()), (rw0.set 0 ((rw0.getD n5.toNat (0, 0)).1, (rw0.getD n5.toNat (0, 0)).2)).set n5.toNat ((rw0.getD 0 (0, 0)).1, (rw0.getD 0 (0, 0)).2), ())).bind fun z => some (Sum.inl (((), IntKind.i64.wrap (n5 - 1), ()), z.2.1, ())) else none else none else none else none else none else none else none else none else some (Sum.inr (((), ()), rw0, ())) : Option (z3P.den ⊕ denX w26_9)) := by kernel_rfl
theorem S5_9_eq (mine3 : List (Int × Int)) (out4 : List (Int × Int)) (t30 : List (Int × Int)) (t31 : Int) (t32 : Int) (m0 : List ((Int × Int) × Int)) : S5_9 ((mine3, out4, (), t30, t31, t32, ()), (m0, ())) = (if decide (t32 < t31) = true then if 0 ≤ t32 then if t32 < (↑t30.length : Int) then if decide (t32 > 0) = true then if 0 ≤ IntKind.i64.wrap (t32 - 1) then if IntKind.i64.wrap (t32 - 1) < (↑out4.length : Int) then if decide ((t30.getD t32.toNat (0, 0)).1 < (out4.getD (IntKind.i64.wrap (t32 - 1)).toNat (0, 0)).1) = true then some (Sum.inr (Sum.inl ((false, ()), ()))) else if 0 ≤ t32 then if t32 < (↑mine3.length : Int) then some (Sum.inl ((mine3, out4, (), t30, t31, IntKind.i64.wrap (t32 + 1), ()), setM ((Ty.int IntKind.i64).pr (Ty.int IntKind.i64)) (Ty.int IntKind.i64) (setM ((Ty.int IntKind.i64).pr (Ty.int IntKind.i64)) (Ty.int IntKind.i64) (setM ((Ty.int IntKind.i64).pr (Ty.int IntKind.i64)) (Ty.int IntKind.i64) (setM ((Ty.int IntKind.i64).pr (Ty.int IntKind.i64)) (Ty.int IntKind.i64) m0 ((t30.getD t32.toNat (0, 0)).1, (t30.getD t32.toNat (0, 0)).2) ((lookM ((Ty.int IntKind.i64).pr (Ty.int IntKind.i64)) (Ty.int IntKind.i64) m0 ((t30.getD t32.toNat (0, 0)).1, (t30.getD t32.toNat (0, 0)).2)).getD 0)) ((t30.getD t32.toNat (0, 0)).1, (t30.getD t32.toNat (0, 0)).2) (IntKind.i64.wrap ((lookM ((Ty.int IntKind.i64).pr (Ty.int IntKind.i64)) (Ty.int IntKind.i64) m0 ((t30.getD t32.toNat (0, 0)).1, (t30.getD t32.toNat (0, 0)).2)).getD 0 + 1))) ((mine3.getD t32.toNat (0, 0)).1, (mine3.getD t32.toNat (0, 0)).2) ((lookM ((Ty.int IntKind.i64).pr (Ty.int IntKind.i64)) (Ty.int IntKind.i64) (setM ((Ty.int IntKind.i64).pr (Ty.int IntKind.i64)) (Ty.int IntKind.i64) (setM ((Ty.int IntKind.i64).pr (Ty.int IntKind.i64)) (Ty.int IntKind.i64) m0 ((t30.getD t32.toNat (0, 0)).1, (t30.getD t32.toNat (0, 0)).2) ((lookM ((Ty.int IntKind.i64).pr (Ty.int IntKind.i64)) (Ty.int IntKind.i64) m0 ((t30.getD t32.toNat (0, 0)).1, (t30.getD t32.toNat (0, 0)).2)).getD 0)) ((t30.getD t32.toNat (0, 0)).1, (t30.getD t32.toNat (0, 0)).2) (IntKind.i64.wrap ((lookM ((Ty.int IntKind.i64).pr (Ty.int IntKind.i64)) (Ty.int IntKind.i64) m0 ((t30.getD t32.toNat (0, 0)).1, (t30.getD t32.toNat (0, 0)).2)).getD 0 + 1))) ((mine3.getD t32.toNat (0, 0)).1, (mine3.getD t32.toNat (0, 0)).2)).getD 0)) ((mine3.getD t32.toNat (0, 0)).1, (mine3.getD t32.toNat (0, 0)).2) (IntKind.i64.wrap ((lookM ((Ty.int IntKind.i64).pr (Ty.int IntKind.i64)) (Ty.int IntKind.i64) (setM ((Ty.int IntKind.i64).pr (Ty.int IntKind.i64)) (Ty.int IntKind.i64) (setM ((Ty.int IntKind.i64).pr (Ty.int IntKind.i64)) (Ty.int IntKind.i64) m0 ((t30.getD t32.toNat (0, 0)).1, (t30.getD t32.toNat (0, 0)).2) ((lookM ((Ty.int IntKind.i64).pr (Ty.int IntKind.i64)) (Ty.int IntKind.i64) m0 ((t30.getD t32.toNat (0, 0)).1, (t30.getD t32.toNat (0, 0)).2)).getD 0)) ((t30.getD t32.toNat (0, 0)).1, (t30.getD t32.toNat (0, 0)).2) (IntKind.i64.wrap ((lookM ((Ty.int IntKind.i64).pr (Ty.int IntKind.i64)) (Ty.int IntKind.i64) m0 ((t30.getD t32.toNat (0, 0)).1, (t30.getD t32.toNat (0, 0)).2)).getD 0 + 1))) ((mine3.getD t32.toNat (0, 0)).1, (mine3.getD t32.toNat (0, 0)).2)).getD 0 - 1)), ())) else none else none else none else none else if 0 ≤ t32 then if t32 < (↑mine3.length : Int) then some (Sum.inl ((mine3, out4, (), t30, t31, IntKind.i64.wrap (t32 + 1), ()), setM ((Ty.int IntKind.i64).pr (Ty.int IntKind.i64)) (Ty.int IntKind.i64) (setM ((Ty.int IntKind.i64).pr (Ty.int IntKind.i64)) (Ty.int IntKind.i64) (setM ((Ty.int IntKind.i64).pr (Ty.int IntKind.i64)) (Ty.int IntKind.i64) (setM ((Ty.int IntKind.i64).pr (Ty.int IntKind.i64)) (Ty.int IntKind.i64) m0 ((t30.getD t32.toNat (0, 0)).1, (t30.getD t32.toNat (0, 0)).2) ((lookM ((Ty.int IntKind.i64).pr (Ty.int IntKind.i64)) (Ty.int IntKind.i64) m0 ((t30.getD t32.toNat (0, 0)).1, (t30.getD t32.toNat (0, 0)).2)).getD 0)) ((t30.getD t32.toNat (0, 0)).1, (t30.getD t32.toNat (0, 0)).2) (IntKind.i64.wrap ((lookM ((Ty.int IntKind.i64).pr (Ty.int IntKind.i64)) (Ty.int IntKind.i64) m0 ((t30.getD t32.toNat (0, 0)).1, (t30.getD t32.toNat (0, 0)).2)).getD 0 + 1))) ((mine3.getD t32.toNat (0, 0)).1, (mine3.getD t32.toNat (0, 0)).2) ((lookM ((Ty.int IntKind.i64).pr (Ty.int IntKind.i64)) (Ty.int IntKind.i64) (setM ((Ty.int IntKind.i64).pr (Ty.int IntKind.i64)) (Ty.int IntKind.i64) (setM ((Ty.int IntKind.i64).pr (Ty.int IntKind.i64)) (Ty.int IntKind.i64) m0 ((t30.getD t32.toNat (0, 0)).1, (t30.getD t32.toNat (0, 0)).2) ((lookM ((Ty.int IntKind.i64).pr (Ty.int IntKind.i64)) (Ty.int IntKind.i64) m0 ((t30.getD t32.toNat (0, 0)).1, (t30.getD t32.toNat (0, 0)).2)).getD 0)) ((t30.getD t32.toNat (0, 0)).1, (t30.getD t32.toNat (0, 0)).2) (IntKind.i64.wrap ((lookM ((Ty.int IntKind.i64).pr (Ty.int IntKind.i64)) (Ty.int IntKind.i64) m0 ((t30.getD t32.toNat (0, 0)).1, (t30.getD t32.toNat (0, 0)).2)).getD 0 + 1))) ((mine3.getD t32.toNat (0, 0)).1, (mine3.getD t32.toNat (0, 0)).2)).getD 0)) ((mine3.getD t32.toNat (0, 0)).1, (mine3.getD t32.toNat (0, 0)).2) (IntKind.i64.wrap ((lookM ((Ty.int IntKind.i64).pr (Ty.int IntKind.i64)) (Ty.int IntKind.i64) (setM ((Ty.int IntKind.i64).pr (Ty.int IntKind.i64)) (Ty.int IntKind.i64) (setM ((Ty.int IntKind.i64).pr (Ty.int IntKind.i64)) (Ty.int IntKind.i64) m0 ((t30.getD t32.toNat (0, 0)).1, (t30.getD t32.toNat (0, 0)).2) ((lookM ((Ty.int IntKind.i64).pr (Ty.int IntKind.i64)) (Ty.int IntKind.i64) m0 ((t30.getD t32.toNat (0, 0)).1, (t30.getD t32.toNat (0, 0)).2)).getD 0)) ((t30.getD t32.toNat (0, 0)).1, (t30.getD t32.toNat (0, 0)).2) (IntKind.i64.wrap ((lookM ((Ty.int IntKind.i64).pr (Ty.int IntKind.i64)) (Ty.int IntKind.i64) m0 ((t30.getD t32.toNat (0, 0)).1, (t30.getD t32.toNat (0, 0)).2)).getD 0 + 1))) ((mine3.getD t32.toNat (0, 0)).1, (mine3.getD t32.toNat (0, 0)).2)).getD 0 - 1)), ())) else none else none else none else none else some (Sum.inr (Sum.inr (((), ()), m0, ()))) : Option (sh5_9.den ⊕ denX w5_9)) := by kernel_rfl
theorem L5_17_eq (m0 : List ((Int × Int) × Int)) : L5_17 (((), ()), (m0, ())) = (some m0 : Option (List ((Int × Int) × Int))) := by kernel_rfl
theorem S5_17n_eq (m0 : List ((Int × Int) × Int)) : S5_17 (((), ()), (m0, ())) none = (some (Sum.inr (Sum.inr ((), ()))) : Option (z2N.den ⊕ denX w5_17)) := by kernel_rfl
theorem S5_17c_eq (m0 : List ((Int × Int) × Int)) (k_0 : Int) (k_1 : Int) (v : Int) (rest : List ((Int × Int) × Int)) : S5_17 (((), ()), (m0, ())) (some (((k_0, k_1), v), rest)) = (if (!v == 0) = true then some (Sum.inr (Sum.inl ((false, ()), ()))) else some (Sum.inl (((), ()), rest, ())) : Option (z2N.den ⊕ denX w5_17)) := by kernel_rfl
theorem F5_eq (F10 : TF10) (F22 : TF22) (F25 : TF25) (F26 : TF26) (g5_9 : sh5_9.den → Option (denX w5_9)) (g5_17 : z2N.den → Option (denX w5_17)) (l0 : List (Int × Int)) : F5 F10 F22 F25 F26 g5_9 g5_17 (l0, ()) = (if decide ((↑l0.length : Int) > 200) = true then (F10 ()).bind fun y => some ((y.1.1, ()), ()) else (F22 (l0, ())).bind fun y => (F26 (y.1.1, ())).bind fun y_1 => if (!(↑(List.length y_1.1.1) : Int) == (↑l0.length : Int)) = true then some ((false, ()), ()) else (F25 (y.1.1, l0, ())).bind fun y_2 => if (!y_2.1.1) = true then some ((false, ()), ()) else (g5_9 ((y.1.1, y_1.1.1, (), y_1.1.1, (↑(List.length y_1.1.1) : Int), 0, ()), [], ())).bind fun y => Sum.elim (fun y => some ((y.1.1, ()), ())) (fun z => (g5_17 (((), ()), z.2.1, ())).bind fun y => Sum.elim (fun y => some ((y.1.1, ()), ())) (fun z => (F10 ()).bind fun y => some ((y.1.1, ()), ())) y) y : Option rs5.den) := by kernel_rfl
end Go.Proofs.Rf
set_option linter.unusedVariables false
namespace Go.Proofs.Rf
open Go Go.RowKit
theorem F26_eq (g26_4 : z3Q.den → Option (denX w26_4)) (g26_9 : z3P.den → Option (denX w26_9)) (l0 : List (Int × Int)) : F26 g26_4 g26_9 (l0, ()) = (
 if (↑l0.length : Int) ≤ (↑l0.length : Int) then
  if (↑l0.length : Int) ≤ ((4294967296 : Nat) : Int) then
   (g26_4
      (((),
        IntKind.i64.wrap
         ((↑(List.take 0 (List.replicate (↑l0.length : Int).toNat ((0, 0) : Int × Int)) ++ List.take (List.replicate (↑l0.length : Int).toNat ((0, 0) : Int × Int)).length l0 ++ List.drop (0 + min l0.length (List.replicate (↑l0.length : Int).toNat ((0, 0) : Int × Int)).length) (List.replicate (↑l0.length : Int).toNat ((0, 0) : Int × Int))).length :
            Int).tdiv
          2),
        0, ()),
       List.take 0 (List.replicate (↑l0.length : Int).toNat ((0, 0) : Int × Int)) ++ List.take (List.replicate (↑l0.length : Int).toNat ((0, 0) : Int × Int)).length l0 ++ List.drop (0 + min l0.length (List.replicate (↑l0.length : Int).toNat ((0, 0) : Int × Int)).length) (List.replicate (↑l0.length : Int).toNat ((0, 0) : Int × Int)),
       ())).bind
    fun y =>
    (g26_9 (((), IntKind.i64.wrap ((↑(List.length y.2.1) : Int) - 1), ()), y.2.1, ())).bind fun y =>
     some ((y.2.1, ()), ())
  else none
 else none : Option rs26.den) := by kernel_rfl
end Go.Proofs.Rf
namespace Go.Proofs.Rf
open Go Go.RowKit
noncomputable def Lg22_3 : z3s.den → Option (denX w22_3) := limL (S22_3)
noncomputable def L22 : TF22 := F22 Lg22_3
theorem okL22 : z0c Tryd.prog 22 (mkCall ps22 rs22 L22) := call22 (z1P _)
noncomputable def Lg25_4 : z3r.den → Option (denX w25_4) := limL (S25_4)
noncomputable def L25 : TF25 := F25 Lg25_4
theorem okL25 : z0c Tryd.prog 25 (mkCall ps25 rs25 L25) := call25 (z1P _)
noncomputable def L53 : TF53 := F53
theorem okL53 : z0c Tryd.prog 53 (mkCall ps53 rs53 L53) := call53
noncomputable def z6F : z2B.den → Option (denX z4O) := limL (z6s L53)
noncomputable def Lg55r_0 : z2C.den → Option (denX z4P) := limL (S55r_0 z6F)
noncomputable def L55r : TF55r := F55r Lg55r_0
theorem okL55r : z0c Tryd.prog 55 (mkCallB z2p z6Q m55r 1 L55r) := call55r okL53 (z1P _) (z1P _)
noncomputable def z6E : z2z.den → Option (denX z4M) := limL (z6q L53)
noncomputable def Lg55s_0 : z2A.den → Option (denX z4N) := limL (S55s_0 z6E)
noncomputable def L55s : TF55s := F55s Lg55s_0
theorem okL55s : z0c Tryd.prog 55 (mkCallB z3Z z6P m55s 1 L55s) := call55s okL53 (z1P _) (z1P _)
noncomputable def Lg26_4 : z3Q.den → Option (denX w26_4) := limL (S26_4 L55r L55s)
noncomputable def Lg26_9 : z3P.den → Option (denX w26_9) := limL (S26_9 L55r L55s)
noncomputable def L26 : TF26 := F26 Lg26_4 Lg26_9
theorem okL26 : z0c Tryd.prog 26 (mkCall ps26 rs26 L26) := call26 okL55r okL55s (z1P _) (z1P _)
noncomputable def Lg5_9 : sh5_9.den → Option (denX w5_9) := limL (S5_9)
noncomputable def Lg5_17 : z2N.den → Option (denX w5_17) := limM L5_17 (S5_17)
end Go.Proofs.Rf
namespace Go.Proofs.Rf
open Go
theorem z2I {A B : Type} {f : A → Option (A ⊕ B)} (μ : A → Nat) (I : A → Prop) (Q : B → Prop) (h : ∀ x, I x → (∃ y, f x = some (.inl y) ∧ I y ∧ μ y < μ x) ∨ ∃ z, f x = some (.inr z) ∧ Q z) : ∀ x, I x → ∃ z, limL f x = some z ∧ Q z := by
 have key : ∀ n x, μ x = n → I x → ∃ z, limL f x = some z ∧ Q z := by
  intro n
  induction n using Nat.strongRecOn with
  | _ n ih =>
   intro x hx hI
   rw [z3L]
   rcases h x hI with ⟨y, h1, h2, h3⟩ | ⟨z, h1, h2⟩
   ·rw [h1]
    exact ih (μ y) (by omega) y rfl h2
   ·rw [h1]
    exact ⟨z, rfl, h2⟩
 exact fun x hI => key _ x rfl hI
theorem wi {n : Int} (h0 : -9223372036854775808 ≤ n) (h1 : n < 9223372036854775808) : IntKind.i64.wrap n = n := by
 simp [IntKind.wrap, IntKind.bits, IntKind.signed]
 omega
abbrev It := Int × Int
theorem getD_lt {A : Type} {l : List A} {k : Nat} (d : A) (h : k < l.length) : l.getD k d = l[k] := by simp [List.getD, h]
theorem z5o {A : Type} {l : List A} {d : A} {k : Nat} (h : k < l.length) : l.take k ++ [l.getD k d] = l.take (k + 1) := by
 rw [getD_lt d h, List.take_append_getElem h]
theorem L22_val (l : List It) (hl : l.length ≤ 1000) : L22 (l, ()) = some ((l, ()), ()) := by
 obtain ⟨z, h1, h2⟩ := z2I (f := S22_3) (fun x => l.length - x.1.2.2.2.1.toNat) (fun x => ∃ k : Nat, k ≤ l.length ∧ x = (((), l, (l.length : Int), (k : Int), ()), (l.take k, ()))) (fun z => z.2.1 = l) (by
  rintro x ⟨k, hk, rfl⟩
  rw [S22_3_eq]
  by_cases h : k < l.length
  ·left
   refine ⟨(((), l, (l.length : Int), ((k + 1 : Nat) : Int), ()), (l.take (k + 1), ())), ?_, ⟨k + 1, by omega, rfl⟩, ?_⟩
   ·rw [if_pos (decide_eq_true (by omega)), if_pos (by omega), if_pos (by omega), if_pos (by simp; omega), wi (by omega) (by omega), Int.toNat_natCast]
    rw [show (l.take k ++ [((l.getD k (0, 0)).1, (l.getD k (0, 0)).2)]) = l.take (k + 1) from z5o h]
    rfl
   ·show l.length - ((k + 1 : Nat) : Int).toNat < l.length - (k : Int).toNat
    omega
  ·right
   refine ⟨_, if_neg (by simp; omega), ?_⟩
   show l.take k = l
   exact List.take_of_length_le (by omega)) (((), l, (l.length : Int), 0, ()), ([], ())) ⟨0, by omega, rfl⟩
 show F22 Lg22_3 (l, ()) = _
 rw [F22_eq]
 show (limL S22_3 _).bind _ = _
 rw [h1]
 simp only [Option.bind_some]
 rw [h2]
theorem L25_val (l : List It) (hl : l.length ≤ 1000) : L25 (l, l, ()) = some ((true, ()), ()) := by
 obtain ⟨z, h1, h2⟩ := z2I (f := S25_4) (fun x => l.length - x.1.2.2.2.1.toNat) (fun x => ∃ k : Nat, k ≤ l.length ∧ x = ((l, l, (l.length : Int), (k : Int), ()), ())) (fun z => z = .inr ((), ())) (by
  rintro x ⟨k, hk, rfl⟩
  rw [S25_4_eq]
  by_cases h : k < l.length
  ·left
   refine ⟨((l, l, (l.length : Int), ((k + 1 : Nat) : Int), ()), ()), ?_, ⟨k + 1, by omega, rfl⟩, ?_⟩
   ·rw [if_pos (decide_eq_true (by omega)), if_pos (by omega), if_pos (by omega), if_pos (by omega), if_pos (by omega), if_neg (by simp), wi (by omega) (by omega)]
    rfl
   ·show l.length - ((k + 1 : Nat) : Int).toNat < l.length - (k : Int).toNat
    omega
  ·right
   exact ⟨_, if_neg (by simp; omega), rfl⟩) ((l, l, (l.length : Int), 0, ()), ()) ⟨0, by omega, rfl⟩
 show F25 Lg25_4 (l, l, ()) = _
 rw [F25_eq, if_neg (by simp)]
 show (limL S25_4 _).bind _ = _
 rw [h1, h2]
 rfl
end Go.Proofs.Rf
namespace Go.Proofs.Rf
open Go Classical
theorem L53_val (x y : It) : L53 (x, y, ()) = some ((decide (x.1 < y.1), ()), ()) := F53_eq x.1 x.2 y.1 y.2
end Go.Proofs.Rf
namespace Go.Proofs.Rf
open Go
abbrev Up (l : List It) : Prop := l.Pairwise fun a b => a.1 ≤ b.1
theorem shift {out : List It} {d x : It} {k n : Nat} (hn : n = out.length) (hk : k ≤ n) :
  (List.take (k + 1) (out ++ [d]) ++ List.take (n + 1 - (k + 1)) (List.take (n + 1 - k) (List.drop k (out ++ [d]))) ++ List.drop (k + 1 + min (List.take (n + 1 - k) (List.drop k (out ++ [d]))).length (n + 1 - (k + 1))) (out ++ [d])).set k x = out.take k ++ x :: out.drop k := by
 subst hn
 have e1 : List.drop k (out ++ [d]) = out.drop k ++ [d] := List.drop_append_of_le_length hk
 have e2 : List.take (out.length + 1 - k) (out.drop k ++ [d]) = out.drop k ++ [d] := List.take_of_length_le (by simp; omega)
 have e3 : List.take (out.length + 1 - (k + 1)) (out.drop k ++ [d]) = out.drop k := by
  rw [List.take_append_of_le_length (by simp), List.take_of_length_le (by simp)]
 have e4 : List.take (k + 1) (out ++ [d]) = out.take k ++ [(out ++ [d]).getD k d] := by
  rw [← z5o (d := d) (by simp; omega), List.take_append_of_le_length hk]
 have e5 : List.drop (k + 1 + min (out.drop k ++ [d]).length (out.length + 1 - (k + 1))) (out ++ [d]) = [] := List.drop_of_length_le (by simp; omega)
 rw [e1, e2, e3, e4, e5, List.append_nil, List.append_assoc, List.set_append_right _ _ (by simp; omega)]
 simp [Nat.min_eq_left hk]
end Go.Proofs.Rf
namespace Go.Proofs.Rf
open Go Classical
end Go.Proofs.Rf
namespace Go.Proofs.Rf
section
variable {A : Type} (w : A → Int) (d : A)
def swp (l : List A) (i j : Nat) : List A := (l.set i (l.getD j d)).set j (l.getD i d)
theorem z3h (l : List A) (i j : Nat) : (swp d l i j).length = l.length := by simp [swp]
theorem swp_getD (l : List A) {i j : Nat} (hi : i < l.length) (hj : j < l.length) (k : Nat) :
  (swp d l i j).getD k d = if k = j then l.getD i d else if k = i then l.getD j d else l.getD k d := by
 unfold swp
 simp only [List.getD_eq_getElem?_getD, List.getElem?_set, List.length_set]
 by_cases h1 : k = j
 ·subst h1; simp [hj]
 ·rw [if_neg (fun h => h1 h.symm), if_neg h1]
  by_cases h2 : k = i
  ·subst h2; simp [hi]
  ·rw [if_neg (fun h => h2 h.symm), if_neg h2]
theorem swp_perm (l : List A) {i j : Nat} (hi : i < l.length) (hj : j < l.length) : (swp d l i j).Perm l := by
 have h := List.set_set_perm hi hj
 have e1 : l.getD j d = l[j] := by simp [List.getD, hj]
 have e2 : l.getD i d = l[i] := by simp [List.getD, hi]
 unfold swp
 rw [e1, e2]
 exact h
def gw (l : List A) (i : Nat) : Int := w (l.getD i d)
theorem swp_gw (l : List A) {i j : Nat} (hi : i < l.length) (hj : j < l.length) (k : Nat) :
  gw w d (swp d l i j) k = if k = j then gw w d l i else if k = i then gw w d l j else gw w d l k := by
 unfold gw
 rw [swp_getD d l hi hj]
 split
 ·rfl
 ·split <;> rfl
def Hp (l : List A) (n s : Nat) : Prop := ∀ i, 0 < i → i < n → s ≤ (i - 1) / 2 → gw w d l ((i - 1) / 2) ≤ gw w d l i
def Dn (l : List A) (n s a : Nat) : Prop :=
 (∀ i, 0 < i → i < n → s ≤ (i - 1) / 2 → (i - 1) / 2 ≠ a → gw w d l ((i - 1) / 2) ≤ gw w d l i) ∧
 (0 < a → s ≤ (a - 1) / 2 → ∀ i, 0 < i → i < n → (i - 1) / 2 = a → gw w d l ((a - 1) / 2) ≤ gw w d l i)
def Us (l : List A) (n a : Nat) : Prop :=
 (∀ i, 0 < i → i < n → i ≠ a → gw w d l ((i - 1) / 2) ≤ gw w d l i) ∧
 (0 < a → ∀ i, 0 < i → i < n → (i - 1) / 2 = a → gw w d l ((a - 1) / 2) ≤ gw w d l i)
theorem Dn.done {l : List A} {n s a : Nat} (h : Dn w d l n s a) (hk : ∀ i, 0 < i → i < n → (i - 1) / 2 = a → gw w d l a ≤ gw w d l i) : Hp w d l n s := by
 intro i h0 hn hs
 by_cases e : (i - 1) / 2 = a
 ·rw [e]; exact hk i h0 hn e
 ·exact h.1 i h0 hn hs e
theorem Dn.step {l : List A} {n s a t : Nat} (hl : n ≤ l.length) (h : Dn w d l n s a) (hsa : s ≤ a) (ht0 : 0 < t) (htn : t < n) (hta : (t - 1) / 2 = a)
  (hlt : gw w d l t < gw w d l a) (hk : ∀ i, 0 < i → i < n → (i - 1) / 2 = a → gw w d l t ≤ gw w d l i) : Dn w d (swp d l a t) n s t := by
 have hat : a < t := by omega
 have e := swp_gw w d l (i := a) (j := t) (by omega) (by omega)
 refine ⟨fun i h0 hn hs hp => ?_, fun _ hs i h0 hn hi => ?_⟩
 ·by_cases h1 : i = t
  ·subst h1
   rw [hta, e a, e i, if_neg (by omega), if_pos rfl, if_pos rfl]
   omega
  ·by_cases h2 : (i - 1) / 2 = a
   ·rw [h2, e a, e i, if_neg (by omega), if_pos rfl, if_neg h1, if_neg (by omega)]
    exact hk i h0 hn h2
   ·by_cases h3 : i = a
    ·subst h3
     rw [e _, e i, if_neg hp, if_neg h2, if_neg (by omega), if_pos rfl]
     exact h.2 h0 hs t ht0 htn hta
    ·rw [e _, e i, if_neg hp, if_neg h2, if_neg h1, if_neg h3]
     exact h.1 i h0 hn hs h2
 ·rw [hta, e a, e i, if_neg (by omega), if_pos rfl, if_neg (by omega), if_neg (by omega)]
  have := h.1 i h0 hn (by omega) (by omega)
  rw [hi] at this
  exact this
theorem Us.done {l : List A} {n a : Nat} (h : Us w d l n a) (hk : a = 0 ∨ gw w d l ((a - 1) / 2) ≤ gw w d l a) : Hp w d l n 0 := by
 intro i h0 hn _
 by_cases e : i = a
 ·subst e
  rcases hk with hk | hk
  ·omega
  ·exact hk
 ·exact h.1 i h0 hn e
theorem Us.step {l : List A} {n a : Nat} (hl : n ≤ l.length) (h : Us w d l n a) (ha0 : 0 < a) (han : a < n) (hlt : gw w d l a < gw w d l ((a - 1) / 2)) : Us w d (swp d l a ((a - 1) / 2)) n ((a - 1) / 2) := by
 have hpa : (a - 1) / 2 < a := by omega
 have e := swp_gw w d l (i := a) (j := (a - 1) / 2) (by omega) (by omega)
 generalize hp : (a - 1) / 2 = p at *
 refine ⟨fun i h0 hn hip => ?_, fun hp0 i h0 hn hi => ?_⟩
 ·rw [e _, e i, if_neg hip]
  by_cases h1 : i = a
  ·subst h1
   rw [hp, if_pos rfl, if_pos rfl]
   omega
  ·rw [if_neg h1]
   have h4 := h.1 i h0 hn h1
   by_cases h2 : (i - 1) / 2 = p
   ·rw [if_pos h2]
    rw [h2] at h4
    omega
   ·rw [if_neg h2]
    by_cases h3 : (i - 1) / 2 = a
    ·rw [if_pos h3]
     have h5 := h.2 ha0 i h0 hn h3
     rw [hp] at h5
     exact h5
    ·rw [if_neg h3]; exact h4
 ·rw [e _, e i, if_neg (by omega), if_neg (by omega), if_neg (by omega)]
  have h4 := h.1 p hp0 (by omega) (by omega)
  by_cases h1 : i = a
  ·subst h1
   rw [if_pos rfl]; exact h4
  ·rw [if_neg h1]
   have h5 := h.1 i h0 hn h1
   rw [hi] at h5
   omega
theorem Hp.root {l : List A} {n : Nat} (h : Hp w d l n 0) : ∀ i, i < n → gw w d l 0 ≤ gw w d l i := by
 intro i
 induction i using Nat.strongRecOn with
 | _ i ih =>
  intro hi
  by_cases h0 : i = 0
  ·subst h0; omega
  ·have h1 := h i (by omega) hi (Nat.zero_le _)
   have h2 := ih ((i - 1) / 2) (by omega) (by omega)
   omega
def top2 (l : List A) (n a : Nat) : Nat :=
 let t := if 2 * a + 1 < n ∧ gw w d l (2 * a + 1) < gw w d l a then 2 * a + 1 else a
 if 2 * a + 2 < n ∧ gw w d l (2 * a + 2) < gw w d l t then 2 * a + 2 else t
theorem z3g (l : List A) (n a : Nat) :
  (top2 w d l n a = a ∧ ∀ i, 0 < i → i < n → (i - 1) / 2 = a → gw w d l a ≤ gw w d l i) ∨
  (0 < top2 w d l n a ∧ top2 w d l n a < n ∧ (top2 w d l n a - 1) / 2 = a ∧ gw w d l (top2 w d l n a) < gw w d l a ∧ ∀ i, 0 < i → i < n → (i - 1) / 2 = a → gw w d l (top2 w d l n a) ≤ gw w d l i) := by
 have hk : ∀ i, 0 < i → (i - 1) / 2 = a → i = 2 * a + 1 ∨ i = 2 * a + 2 := fun i h0 h => by omega
 unfold top2
 by_cases h1 : 2 * a + 1 < n ∧ gw w d l (2 * a + 1) < gw w d l a
 ·simp only [if_pos h1]
  by_cases h2 : 2 * a + 2 < n ∧ gw w d l (2 * a + 2) < gw w d l (2 * a + 1)
  ·simp only [if_pos h2]
   refine .inr ⟨by omega, h2.1, by omega, by omega, fun i h0 hn hi => ?_⟩
   rcases hk i h0 hi with rfl | rfl <;> omega
  ·simp only [if_neg h2]
   refine .inr ⟨by omega, h1.1, by omega, by omega, fun i h0 hn hi => ?_⟩
   rcases hk i h0 hi with rfl | rfl
   ·omega
   ·have : ¬ gw w d l (2 * a + 2) < gw w d l (2 * a + 1) := fun h => h2 ⟨hn, h⟩
    omega
 ·simp only [if_neg h1]
  by_cases h2 : 2 * a + 2 < n ∧ gw w d l (2 * a + 2) < gw w d l a
  ·simp only [if_pos h2]
   refine .inr ⟨by omega, h2.1, by omega, by omega, fun i h0 hn hi => ?_⟩
   rcases hk i h0 hi with rfl | rfl
   ·have : ¬ gw w d l (2 * a + 1) < gw w d l a := fun h => h1 ⟨by omega, h⟩
    omega
   ·omega
  ·simp only [if_neg h2]
   refine .inl ⟨trivial, fun i h0 hn hi => ?_⟩
   rcases hk i h0 hi with rfl | rfl
   ·have : ¬ gw w d l (2 * a + 1) < gw w d l a := fun h => h1 ⟨hn, h⟩
    omega
   ·have : ¬ gw w d l (2 * a + 2) < gw w d l a := fun h => h2 ⟨hn, h⟩
    omega
end
end Go.Proofs.Rf
namespace Go.Proofs.Rf
open Go
def wI (x : It) : Int := - x.1
abbrev dI : It := (0, 0)
theorem gwI {l : List It} {i j : Nat} : gw wI dI l i < gw wI dI l j ↔ (l.getD j dI).1 < (l.getD i dI).1 := by
 unfold gw wI
 omega
theorem gwI_le {l : List It} {i j : Nat} : gw wI dI l i ≤ gw wI dI l j ↔ (l.getD j dI).1 ≤ (l.getD i dI).1 := by
 unfold gw wI
 omega
theorem z6r (l : List It) (a top k : Nat) (hk : k < 2) (ht : top < 2 * a + 1 + k) (ha : a < 20000) :
  z6s L53 (((), (a : Int), (top : Int), (k : Int), ()), (l, ())) =
   some (.inl (((), (a : Int), ((if 2 * a + 1 + k < l.length ∧ gw wI dI l (2 * a + 1 + k) < gw wI dI l top then 2 * a + 1 + k else top : Nat) : Int), ((k + 1 : Nat) : Int), ()), (l, ()))) := by
 refine (S55r_2_eq L53 _ _ _ _).trans ?_
 have e1 : IntKind.i64.wrap (IntKind.i64.wrap (IntKind.i64.wrap (2 * (a : Int)) + 1) + (k : Int)) = ((2 * a + 1 + k : Nat) : Int) := by
  rw [wi (n := 2 * (a : Int)) (by omega) (by omega), wi (n := 2 * (a : Int) + 1) (by omega) (by omega), wi (by omega) (by omega)]
  omega
 have e2 : IntKind.i64.wrap ((k : Int) + 1) = ((k + 1 : Nat) : Int) := wi (by omega) (by omega)
 rw [if_pos (by simp; omega)]
 simp only [e1, e2, Int.toNat_natCast]
 generalize 2 * a + 1 + k = kid at *
 by_cases h : kid < l.length
 ·rw [if_pos (by simp; omega), if_pos (by omega), if_pos (by omega), if_pos (by omega), if_pos (by omega)]
  rw [L53_val, Option.bind_some]
  by_cases hw : (l.getD top dI).1 < (l.getD kid dI).1
  ·refine (if_pos (decide_eq_true hw)).trans ?_
   rw [if_pos ⟨h, gwI.2 hw⟩]
  ·refine (if_neg (by simpa using hw)).trans ?_
   rw [if_neg (fun q => hw (gwI.1 q.2))]
 ·rw [if_neg (by simp; omega), if_neg (fun q => h q.1)]
theorem Lg55r_2_val (l : List It) (a : Nat) (ha : a < 20000) :
  z6F (((), (a : Int), (a : Int), 0, ()), (l, ())) = some (((), (a : Int), (top2 wI dI l l.length a : Int), ()), (l, ())) := by
 show limL (z6s L53) _ = _
 have s0 := z6r l a a 0 (by omega) (by omega) ha
 have ht : (if 2 * a + 1 + 0 < l.length ∧ gw wI dI l (2 * a + 1 + 0) < gw wI dI l a then 2 * a + 1 + 0 else a) < 2 * a + 1 + 1 := by split <;> omega
 have s1 := z6r l a _ 1 (by omega) ht ha
 have s2 : ∀ t : Int, z6s L53 (((), (a : Int), t, ((1 + 1 : Nat) : Int), ()), (l, ())) = some (.inr (((), (a : Int), t, ()), (l, ()))) := fun t =>
  (S55r_2_eq L53 _ _ _ _).trans (if_neg (by decide))
 rw [z3L]
 rw [show z6s L53 (((), (a : Int), (a : Int), 0, ()), (l, ())) = _ from s0]
 simp only
 rw [z3L, s1]
 simp only
 rw [z3L, s2]
 rfl
theorem S55r_0_val (l : List It) (a : Nat) (ha : a < 20000) (hl : l.length ≤ 10000) :
  S55r_0 z6F (((), (a : Int), ()), (l, ())) =
   if top2 wI dI l l.length a = a then some (.inr (((), ()), (l, ())))
   else some (.inl (((), (top2 wI dI l l.length a : Int), ()), (swp dI l a (top2 wI dI l l.length a), ()))) := by
 refine (S55r_0_eq z6F _ _).trans ?_
 rw [Lg55r_2_val l a ha, Option.bind_some]
 rcases z3g wI dI l l.length a with ⟨h1, _⟩ | ⟨h1, h2, h3, _⟩
 ·rw [if_pos h1]
  simp only [h1]
  rw [if_pos (by simp)]
 ·generalize top2 wI dI l l.length a = t at *
  rw [if_neg (by omega : ¬ t = a)]
  simp only
  have c1' : ¬ ((t : Int) == (a : Int)) = true := by simp; omega
  have c2 : (0 : Int) ≤ (t : Int) := by omega
  have c3 : (t : Int) < (l.length : Int) := by omega
  have c4 : (0 : Int) ≤ (a : Int) := by omega
  have c5 : (a : Int) < (l.length : Int) := by omega
  simp only [List.length_set, if_neg c1', if_pos c2, if_pos c3, if_pos c4, if_pos c5, Int.toNat_natCast]
  rfl
theorem z6p {n : Nat} (l : List It) (a top k : Nat) (hk : k < 2) (ht : top < 2 * a + 1 + k) (ha : a < 20000) (_hn : n ≤ l.length) :
  z6q L53 ((n, (a : Int), (top : Int), (k : Int), ()), (l, ())) =
   some (.inl ((n, (a : Int), ((if 2 * a + 1 + k < n ∧ gw wI dI l (2 * a + 1 + k) < gw wI dI l top then 2 * a + 1 + k else top : Nat) : Int), ((k + 1 : Nat) : Int), ()), (l, ()))) := by
 refine (S55s_2_eq L53 _ _ _ _ _).trans ?_
 have e1 : IntKind.i64.wrap (IntKind.i64.wrap (IntKind.i64.wrap (2 * (a : Int)) + 1) + (k : Int)) = ((2 * a + 1 + k : Nat) : Int) := by
  rw [wi (n := 2 * (a : Int)) (by omega) (by omega), wi (n := 2 * (a : Int) + 1) (by omega) (by omega), wi (by omega) (by omega)]
  omega
 have e2 : IntKind.i64.wrap ((k : Int) + 1) = ((k + 1 : Nat) : Int) := wi (by omega) (by omega)
 rw [if_pos (by simp; omega)]
 simp only [e1, e2, Int.toNat_natCast, Nat.zero_add]
 generalize 2 * a + 1 + k = kid at *
 by_cases h : kid < n
 ·rw [if_pos (by simp; omega), if_pos (by omega), if_pos (by omega), if_pos (by omega), if_pos (by omega)]
  rw [L53_val, Option.bind_some]
  by_cases hw : (l.getD top dI).1 < (l.getD kid dI).1
  ·refine (if_pos (decide_eq_true hw)).trans ?_
   rw [if_pos ⟨h, gwI.2 hw⟩]
  ·refine (if_neg (by simpa using hw)).trans ?_
   rw [if_neg (fun q => hw (gwI.1 q.2))]
 ·rw [if_neg (by simp; omega), if_neg (fun q => h q.1)]
theorem Lg55s_2_val {n : Nat} (l : List It) (a : Nat) (ha : a < 20000) (hn : n ≤ l.length) :
  z6E ((n, (a : Int), (a : Int), 0, ()), (l, ())) = some ((n, (a : Int), (top2 wI dI l n a : Int), ()), (l, ())) := by
 show limL (z6q L53) _ = _
 have s0 := z6p l a a 0 (by omega) (by omega) ha hn
 have ht : (if 2 * a + 1 + 0 < n ∧ gw wI dI l (2 * a + 1 + 0) < gw wI dI l a then 2 * a + 1 + 0 else a) < 2 * a + 1 + 1 := by split <;> omega
 have s1 := z6p l a _ 1 (by omega) ht ha hn
 have s2 : ∀ t : Int, z6q L53 ((n, (a : Int), t, ((1 + 1 : Nat) : Int), ()), (l, ())) = some (.inr ((n, (a : Int), t, ()), (l, ()))) := fun t =>
  (S55s_2_eq L53 _ _ _ _ _).trans (if_neg (by decide))
 rw [z3L]
 rw [show z6q L53 ((n, (a : Int), (a : Int), 0, ()), (l, ())) = _ from s0]
 simp only
 rw [z3L, s1]
 simp only
 rw [z3L, s2]
 rfl
theorem S55s_0_val {n : Nat} (l : List It) (a : Nat) (ha : a < 20000) (hl : l.length ≤ 10000) (hn : n ≤ l.length) :
  S55s_0 z6E ((n, (a : Int), ()), (l, ())) =
   if top2 wI dI l n a = a then some (.inr ((n, ()), (l, ())))
   else some (.inl ((n, (top2 wI dI l n a : Int), ()), (swp dI l a (top2 wI dI l n a), ()))) := by
 refine (S55s_0_eq z6E _ _ _).trans ?_
 rw [Lg55s_2_val l a ha hn, Option.bind_some]
 rcases z3g wI dI l n a with ⟨h1, _⟩ | ⟨h1, h2, h3, _⟩
 ·rw [if_pos h1]
  simp only [h1]
  rw [if_pos (by simp)]
 ·generalize top2 wI dI l n a = t at *
  rw [if_neg (by omega : ¬ t = a)]
  simp only
  have c1' : ¬ ((t : Int) == (a : Int)) = true := by simp; omega
  have c2 : (0 : Int) ≤ (t : Int) := by omega
  have c3 : (t : Int) < (n : Int) := by omega
  have c4 : (0 : Int) ≤ (a : Int) := by omega
  have c5 : (a : Int) < (n : Int) := by omega
  simp only [Nat.zero_add, if_neg c1', if_pos c2, if_pos c3, if_pos c4, if_pos c5, Int.toNat_natCast]
  rfl
theorem L55r_val (l : List It) (a s : Nat) (ha : a < l.length) (hl : l.length ≤ 10000) (hs : s ≤ a) (hd : Dn wI dI l l.length s a) :
  ∃ l', L55r (((), (a : Int), ()), (l, ())) = some (((), ()), (l', ())) ∧ l'.Perm l ∧ Hp wI dI l' l'.length s := by
 obtain ⟨z, h1, l', h2, h3, h4⟩ := z2I (f := S55r_0 z6F) (fun x => l.length - x.1.2.1.toNat)
  (fun x => ∃ (a : Nat) (l' : List It), x = (((), (a : Int), ()), (l', ())) ∧ l'.Perm l ∧ s ≤ a ∧ a < l.length ∧ Dn wI dI l' l'.length s a)
  (fun z => ∃ l', z = (((), ()), (l', ())) ∧ l'.Perm l ∧ Hp wI dI l' l'.length s) (by
  rintro x ⟨a, l', rfl, hp, hsa, hlt, hu⟩
  have hn := hp.length_eq
  have hst := S55r_0_val l' a (by omega) (by omega)
  rcases z3g wI dI l' l'.length a with ⟨h1, h2⟩ | ⟨h1, h2, h3, h4, h5⟩
  ·rw [if_pos h1] at hst
   exact .inr ⟨_, hst, l', rfl, hp, hu.done _ _ h2⟩
  ·rw [if_neg (by omega)] at hst
   refine .inl ⟨_, hst, ⟨_, _, rfl, (swp_perm dI l' (by omega) h2).trans hp, by omega, by omega, ?_⟩, ?_⟩
   ·rw [z3h]
    exact hu.step _ _ (Nat.le_refl _) hsa h1 h2 h3 h4 h5
   ·show l.length - (top2 wI dI l' l'.length a : Int).toNat < l.length - (a : Int).toNat
    omega) (((), (a : Int), ()), (l, ())) ⟨a, l, rfl, List.Perm.refl _, hs, ha, hd⟩
 refine ⟨l', ?_, h3, h4⟩
 refine (F55r_eq Lg55r_0 a l).trans ?_
 rw [show Lg55r_0 (((), (a : Int), ()), (l, ())) = some (((), ()), (l', ())) from h1.trans (congrArg some h2)]
 rfl
theorem L55s_val (l : List It) (n : Nat) (hn : n ≤ l.length) (hl : l.length ≤ 10000) (hd : Dn wI dI l n 0 0) :
  ∃ l', L55s ((n, 0, ()), (l, ())) = some ((n, ()), (l', ())) ∧ l'.Perm l ∧ Hp wI dI l' n 0 ∧ (∀ i, n ≤ i → l'.getD i dI = l.getD i dI) ∧
   ∀ P : It → Prop, (∀ i, i < n → P (l.getD i dI)) → ∀ i, i < n → P (l'.getD i dI) := by
 obtain ⟨z, h1, l', h2, h3, h4, h5⟩ := z2I (f := S55s_0 z6E) (fun x => n - x.1.2.1.toNat)
  (fun x => ∃ (a : Nat) (l' : List It), x = ((n, (a : Int), ()), (l', ())) ∧ l'.Perm l ∧ (a = 0 ∨ a < n) ∧ Dn wI dI l' n 0 a ∧ (∀ i, n ≤ i → l'.getD i dI = l.getD i dI) ∧
   ∀ P : It → Prop, (∀ i, i < n → P (l.getD i dI)) → ∀ i, i < n → P (l'.getD i dI))
  (fun z => ∃ l', z = ((n, ()), (l', ())) ∧ l'.Perm l ∧ Hp wI dI l' n 0 ∧ (∀ i, n ≤ i → l'.getD i dI = l.getD i dI) ∧
   ∀ P : It → Prop, (∀ i, i < n → P (l.getD i dI)) → ∀ i, i < n → P (l'.getD i dI)) (by
  rintro x ⟨a, l', rfl, hp, hlt, hu, hk, hP⟩
  have hnl := hp.length_eq
  have hst := S55s_0_val (n := n) l' a (by omega) (by omega) (by omega)
  rcases z3g wI dI l' n a with ⟨h1, h2⟩ | ⟨h1, h2, h3, h4, h5⟩
  ·rw [if_pos h1] at hst
   exact .inr ⟨_, hst, l', rfl, hp, hu.done _ _ h2, hk, hP⟩
  ·rw [if_neg (by omega)] at hst
   generalize top2 wI dI l' n a = t at *
   have hg := swp_getD dI l' (i := a) (j := t) (by omega) (by omega)
   refine .inl ⟨_, hst, ⟨_, _, rfl, (swp_perm dI l' (by omega) (by omega)).trans hp, .inr h2, hu.step _ _ (by omega) (Nat.zero_le _) h1 h2 h3 h4 h5, fun i hi => ?_, fun P h i hi => ?_⟩, ?_⟩
   ·rw [hg, if_neg (by omega), if_neg (by omega)]
    exact hk i hi
   ·rw [hg]
    have := hP P h
    split
    ·exact this a (by omega)
    ·split
     ·exact this t h2
     ·exact this i hi
   ·show n - (t : Int).toNat < n - (a : Int).toNat
    omega) ((n, ((0 : Nat) : Int), ()), (l, ())) ⟨0, l, rfl, List.Perm.refl _, .inl rfl, hd, fun _ _ => rfl, fun _ h => h⟩
 refine ⟨l', ?_, h3, h4, h5⟩
 refine (F55s_eq Lg55s_0 n 0 l).trans ?_
 rw [show Lg55s_0 ((n, 0, ()), (l, ())) = some ((n, ()), (l', ())) from h1.trans (congrArg some h2)]
 simp only [Option.bind_some]
 rw [if_pos (by simp [h3.length_eq])]
end Go.Proofs.Rf
namespace Go.Proofs.Rf
open Go
def Sd (l : List It) : Prop := ∀ i j, i < j → j < l.length → (l.getD i dI).1 ≤ (l.getD j dI).1
theorem Sd.up {l : List It} (h : Sd l) : Up l := by
 refine (List.pairwise_iff_getElem).2 fun i j hi hj hij => ?_
 have := h i j hij hj
 simpa [List.getD, hi, hj] using this
theorem Lg26_4_val (l : List It) (hl : l.length ≤ 10000) :
  ∃ l', Lg26_4 (((), ((l.length / 2 : Nat) : Int), 0, ()), (l, ())) = some (((), ()), (l', ())) ∧ l'.Perm l ∧ Hp wI dI l' l'.length 0 := by
 obtain ⟨z, h1, l', h2, h3, h4⟩ := z2I (f := S26_4 L55r L55s) (fun x => l.length - x.1.2.2.1.toNat)
  (fun x => ∃ (k : Nat) (l' : List It), k ≤ l.length / 2 ∧ x = (((), ((l.length / 2 : Nat) : Int), (k : Int), ()), (l', ())) ∧ l'.Perm l ∧ Hp wI dI l' l'.length (l.length / 2 - k))
  (fun z => ∃ l', z = (((), ()), (l', ())) ∧ l'.Perm l ∧ Hp wI dI l' l'.length 0) (by
  rintro x ⟨k, l', hk, rfl, hp, hh⟩
  have hn := hp.length_eq
  rw [show S26_4 L55r L55s _ = _ from S26_4_eq L55r L55s _ _ _]
  by_cases h : k < l.length / 2
  ·rw [if_pos (by simp; omega)]
   have e1 : IntKind.i64.wrap (IntKind.i64.wrap (IntKind.i64.wrap ((l'.length : Int).tdiv 2) - 1) - (k : Int)) = ((l.length / 2 - (k + 1) : Nat) : Int) := by
    rw [Int.tdiv_eq_ediv_of_nonneg (by omega), hn, wi (n := (l.length : Int) / 2) (by omega) (by omega), wi (n := (l.length : Int) / 2 - 1) (by omega) (by omega), wi (by omega) (by omega)]
    omega
   obtain ⟨l2, k1, k2, k3⟩ := L55r_val l' (l.length / 2 - (k + 1)) (l.length / 2 - (k + 1)) (by omega) (by omega) (Nat.le_refl _)
    ⟨fun i h0 hi hs hne => hh i h0 hi (by omega), fun h0 hs => absurd hs (by omega)⟩
   rw [e1, k1, Option.bind_some, wi (n := (k : Int) + 1) (by omega) (by omega)]
   refine .inl ⟨_, rfl, ⟨k + 1, l2, by omega, rfl, k2.trans hp, k3⟩, ?_⟩
   show l.length - ((k : Int) + 1).toNat < l.length - (k : Int).toNat
   omega
  ·rw [if_neg (by simp; omega)]
   refine .inr ⟨_, rfl, l', rfl, hp, ?_⟩
   rw [show l.length / 2 - k = 0 by omega] at hh
   exact hh) (((), ((l.length / 2 : Nat) : Int), ((0 : Nat) : Int), ()), (l, ())) ⟨0, l, by omega, rfl, List.Perm.refl _, fun i h0 hi hs => by omega⟩
 exact ⟨l', h1.trans (congrArg some h2), h3, h4⟩
theorem S26_9_step (l : List It) (n : Nat) (hn0 : 0 < n) (hn : n < l.length) (hl : l.length ≤ 10000) (hh : Hp wI dI l (n + 1) 0) (hs : ∀ i j, i < j → n < j → j < l.length → (l.getD i dI).1 ≤ (l.getD j dI).1) :
  ∃ l', S26_9 L55r L55s (((), (n : Int), ()), (l, ())) = some (.inl (((), ((n - 1 : Nat) : Int), ()), (l', ()))) ∧ l'.Perm l ∧ Hp wI dI l' (n - 1 + 1) 0 ∧ ∀ i j, i < j → n - 1 < j → j < l'.length → (l'.getD i dI).1 ≤ (l'.getD j dI).1 := by
 have hg := swp_getD dI l (i := 0) (j := n) (by omega) hn
 have hgw := swp_gw wI dI l (i := 0) (j := n) (by omega) hn
 have hroot : ∀ i, i ≤ n → (l.getD i dI).1 ≤ (l.getD 0 dI).1 := fun i hi => gwI_le.1 (hh.root _ _ i (by omega))
 obtain ⟨l', k1, k2, k3, k4, k5⟩ := L55s_val (swp dI l 0 n) n (by rw [z3h]; omega) (by rw [z3h]; omega)
  ⟨fun i h0 hi _ hne => by
   rw [hgw, hgw, if_neg (by omega), if_neg (by omega), if_neg (by omega), if_neg (by omega)]
   exact hh i h0 (by omega) (Nat.zero_le _), fun h => absurd h (by omega)⟩
 have hlen : l'.length = l.length := by rw [k2.length_eq, z3h]
 refine ⟨l', ?_, k2.trans (swp_perm dI l (by omega) hn), by rw [show n - 1 + 1 = n by omega]; exact k3, fun i j hij hj hjl => ?_⟩
 ·refine (S26_9_eq L55r L55s _ _).trans ?_
  have c1 : (0 : Int) ≤ (n : Int) := by omega
  have c2 : (n : Int) < (l.length : Int) := by omega
  have c3 : (0 : Int) < (l.length : Int) := by omega
  have c4 : (n : Int) ≤ (l.length : Int) := by omega
  rw [if_pos (by simp; omega)]
  simp only [List.length_set, if_pos c1, if_pos c2, if_pos c3, if_pos c4, Int.toNat_natCast, Nat.sub_zero]
  have k1' : L55s ((n, 0, ()), ((l.set 0 ((l.getD n (0, 0)).1, (l.getD n (0, 0)).2)).set n ((l.getD 0 (0, 0)).1, (l.getD 0 (0, 0)).2), ())) = _ := k1
  rw [k1', Option.bind_some, wi (by omega) (by omega), show (n : Int) - 1 = ((n - 1 : Nat) : Int) by omega]
 ·rw [hlen] at hjl
  by_cases hjn : j = n
  ·subst hjn
   rw [k4 j (Nat.le_refl _), hg, if_pos rfl]
   refine k5 (fun x => x.1 ≤ (l.getD 0 dI).1) (fun i hi => ?_) i hij
   rw [hg, if_neg (by omega)]
   split
   ·exact hroot j (Nat.le_refl _)
   ·exact hroot i (by omega)
  ·have hj' : n < j := by omega
   rw [k4 j (by omega), hg, if_neg hjn, if_neg (by omega)]
   by_cases hi : i < n
   ·refine k5 (fun x => x.1 ≤ (l.getD j dI).1) (fun i hi => ?_) i hi
    rw [hg, if_neg (by omega)]
    split
    ·exact hs n j hj' hj' hjl
    ·exact hs i j (by omega) hj' hjl
   ·rw [k4 i (by omega), hg]
    split
    ·exact hs 0 j (by omega) hj' hjl
    ·rw [if_neg (by omega)]
     exact hs i j hij hj' hjl
theorem Lg26_9_val (l : List It) (hl : l.length ≤ 10000) (hh : Hp wI dI l l.length 0) :
  ∃ l', Lg26_9 (((), (l.length : Int) - 1, ()), (l, ())) = some (((), ()), (l', ())) ∧ l'.Perm l ∧ Sd l' := by
 obtain ⟨z, h1, l', h2, h3, h4⟩ := z2I (f := S26_9 L55r L55s) (fun x => x.1.2.1.toNat)
  (fun x => ∃ (n : Int) (l' : List It), x = (((), n, ()), (l', ())) ∧ l'.Perm l ∧ n < l.length ∧ Hp wI dI l' (n + 1).toNat 0 ∧ ∀ i j : Nat, i < j → n < (j : Int) → j < l.length → (l'.getD i dI).1 ≤ (l'.getD j dI).1)
  (fun z => ∃ l', z = (((), ()), (l', ())) ∧ l'.Perm l ∧ Sd l') (by
  rintro x ⟨n, l', rfl, hp, hlt, hu, hs⟩
  have hn := hp.length_eq
  by_cases h : 0 < n
  ·obtain ⟨m, rfl⟩ : ∃ m : Nat, n = (m : Int) := ⟨n.toNat, by omega⟩
   rw [show ((m : Int) + 1).toNat = m + 1 by omega] at hu
   obtain ⟨l2, k1, k2, k3, k4⟩ := S26_9_step l' m (by omega) (by omega) (by omega) hu (fun i j h1 h2 h3 => hs i j h1 (by omega) (by omega))
   refine .inl ⟨_, k1, ⟨_, l2, rfl, k2.trans hp, by omega, by rw [show (((m - 1 : Nat) : Int) + 1).toNat = m - 1 + 1 by omega]; exact k3, fun i j h1 h2 h3 => k4 i j h1 (by omega) (by rw [k2.length_eq]; omega)⟩, ?_⟩
   show ((m - 1 : Nat) : Int).toNat < (m : Int).toNat
   omega
  ·refine .inr ⟨_, (S26_9_eq L55r L55s n l').trans (if_neg (by simp; omega)), l', rfl, hp, fun i j h1 h2 => hs i j h1 (by omega) (by omega)⟩) (((), (l.length : Int) - 1, ()), (l, ()))
  ⟨_, l, rfl, List.Perm.refl _, by omega, by rw [show ((l.length : Int) - 1 + 1).toNat = l.length by omega]; exact hh, fun i j h1 h2 h3 => by omega⟩
 exact ⟨l', h1.trans (congrArg some h2), h3, h4⟩
theorem L26_val (l : List It) (hl : l.length ≤ 10000) : ∃ l', L26 (l, ()) = some ((l', ()), ()) ∧ l'.Perm l ∧ Sd l' := by
 obtain ⟨l1, k1, k2, k3⟩ := Lg26_4_val l hl
 obtain ⟨l2, j1, j2, j3⟩ := Lg26_9_val l1 (by rw [k2.length_eq]; exact hl) k3
 refine ⟨l2, ?_, j2.trans k2, j3⟩
 refine (F26_eq Lg26_4 Lg26_9 l).trans ?_
 rw [if_pos (by omega), if_pos (by omega)]
 have e0 : (List.take 0 (List.replicate (l.length : Int).toNat ((0, 0) : Int × Int)) ++ List.take (List.replicate (l.length : Int).toNat ((0, 0) : Int × Int)).length l ++ List.drop (0 + min l.length (List.replicate (l.length : Int).toNat ((0, 0) : Int × Int)).length) (List.replicate (l.length : Int).toNat ((0, 0) : Int × Int))) = l := by
  simp
 simp only [e0]
 have e1 : IntKind.i64.wrap ((l.length : Int).tdiv 2) = ((l.length / 2 : Nat) : Int) := by
  rw [Int.tdiv_eq_ediv_of_nonneg (by omega), wi (by omega) (by omega)]
  omega
 rw [e1, k1, Option.bind_some]
 simp only
 rw [wi (by rw [k2.length_eq]; omega) (by rw [k2.length_eq]; omega), j1]
 rfl
end Go.Proofs.Rf
namespace Go.Proofs.Rf
open Go Go.RowKit
noncomputable def K11 : TF11 := F11
theorem okK11 : z0c Tryd.prog 11 (mkCall ps11 rs11 K11) := call11
noncomputable def K19q : TF19q := F19q
theorem okK19q : z0c Tryd.prog 19 (mkCallB z3A z6R m19q 1 K19q) := call19q
noncomputable def K17q : TF17q := F17q K19q
theorem okK17q : z0c Tryd.prog 17 (mkCallB z5I rs17q m17q 1 K17q) := call17q okK19q
noncomputable def K123 : TF123 := F123
theorem okK123 : z0c Tryd.prog 123 (mkCall ps123 rs123 K123) := call123
noncomputable def K124 : TF124 := F124
theorem okK124 : z0c Tryd.prog 124 (mkCall ps124 rs124 K124) := call124
noncomputable def Kg50_2 : z5q.den → Option (denX w50_2) := iterL (S50_2 K123 K124) 100
noncomputable def K50 : TF50 := F50 Kg50_2
theorem okK50 : z0c Tryd.prog 50 (mkCall ps50 rs50 K50) := call50 okK123 okK124 (z1j _ _)
noncomputable def Kg15q_12 : z2D.den → Option (denX z4r) := iterL (S15q_12 K50) 100
noncomputable def Kg15q_10 : z2E.den → Option (denX z4s) := iterL (S15q_10 Kg15q_12) 100
noncomputable def K15q : TF15q := F15q K17q Kg15q_10
theorem okK15q : z0c Tryd.prog 15 (mkCallB z5J rs15q m15q 1 K15q) := call15q okK17q okK50 (z1j _ _) (z1j _ _)
noncomputable def Kg22_3 : z3s.den → Option (denX w22_3) := iterL (S22_3) 100
noncomputable def K22 : TF22 := F22 Kg22_3
theorem okK22 : z0c Tryd.prog 22 (mkCall ps22 rs22 K22) := call22 (z1j _ _)
noncomputable def Kg25_4 : z3r.den → Option (denX w25_4) := iterL (S25_4) 100
noncomputable def K25 : TF25 := F25 Kg25_4
theorem okK25 : z0c Tryd.prog 25 (mkCall ps25 rs25 K25) := call25 (z1j _ _)
noncomputable def K28 : TF28 := F28
theorem okK28 : z0c Tryd.prog 28 (mkCall ps28 rs28 K28) := call28
noncomputable def K53 : TF53 := F53
theorem okK53 : z0c Tryd.prog 53 (mkCall ps53 rs53 K53) := call53
noncomputable def Kg52_2 : z5p.den → Option (denX w52_2) := iterL (S52_2 K53) 100
noncomputable def K52 : TF52 := F52 Kg52_2
theorem okK52 : z0c Tryd.prog 52 (mkCall ps52 rs52 K52) := call52 okK53 (z1j _ _)
noncomputable def K74 : TF74 := F74
theorem okK74 : z0c Tryd.prog 74 (mkCall ps74 rs74 K74) := call74
noncomputable def K56 : TF56 := iterF (fun R => F56 K52 R K74) 100
theorem okK56 : z0c Tryd.prog 56 (mkCall ps56 rs56 K56) := z2M ⟨Tryd.f56, Tryd.func56, by kernel_rfl, by kernel_rfl⟩ (fun R hR => call56 okK52 hR okK74) 100
noncomputable def K30 : TF30 := F30 K56
theorem okK30 : z0c Tryd.prog 30 (mkCall ps30 rs30 K30) := call30 okK56
noncomputable def K34 : TF34 := F34
theorem okK34 : z0c Tryd.prog 34 (mkCall ps34 rs34 K34) := call34
noncomputable def K57 : TF57 := F57
theorem okK57 : z0c Tryd.prog 57 (mkCall ps57 rs57 K57) := call57
noncomputable def K75 : TF75 := F75 K57
theorem okK75 : z0c Tryd.prog 75 (mkCall ps75 rs75 K75) := call75 okK57
noncomputable def K58 : TF58 := iterF (fun R => F58 R K75) 100
theorem okK58 : z0c Tryd.prog 58 (mkCall ps58 rs58 K58) := z2M ⟨Tryd.f58, Tryd.func58, by kernel_rfl, by kernel_rfl⟩ (fun R hR => call58 hR okK75) 100
noncomputable def K82 : TF82 := F82
theorem okK82 : z0c Tryd.prog 82 (mkCall ps82 rs82 K82) := call82
noncomputable def K76 : TF76 := F76 K82
theorem okK76 : z0c Tryd.prog 76 (mkCall ps76 rs76 K76) := call76 okK82
noncomputable def K59 : TF59 := iterF (fun R => F59 R K75 K76) 100
theorem okK59 : z0c Tryd.prog 59 (mkCall ps59 rs59 K59) := z2M ⟨Tryd.f59, Tryd.func59, by kernel_rfl, by kernel_rfl⟩ (fun R hR => call59 hR okK75 okK76) 100
noncomputable def K35t : TF35t := F35t K28 K57 K58 K59
theorem okK35t : z0c Tryd.prog 35 (mkCallB z5H rs35t m35t 3 K35t) := call35t okK28 okK57 okK58 okK59
noncomputable def K60t : TF60t := F60t K34
theorem okK60t : z0c Tryd.prog 60 (mkCallB z5F rs60t m60t 1 K60t) := call60t okK34
noncomputable def K83u : TF83u := F83u
theorem okK83u : z0c Tryd.prog 83 (mkCallB z2o z4w m83u 1 K83u) := call83u
noncomputable def K77u : TF77u := F77u K83u
theorem okK77u : z0c Tryd.prog 77 (mkCallB z3y z6N m77u 2 K77u) := call77u okK83u
noncomputable def K78u : TF78u := F78u K83u
theorem okK78u : z0c Tryd.prog 78 (mkCallB z3x z6M m78u 2 K78u) := call78u okK83u
noncomputable def K95 : TF95 := F95
theorem okK95 : z0c Tryd.prog 95 (mkCall ps95 rs95 K95) := call95
noncomputable def K93 : TF93 := F93 K95
theorem okK93 : z0c Tryd.prog 93 (mkCall ps93 rs93 K93) := call93 okK95
noncomputable def K90 : TF90 := F90 K93
theorem okK90 : z0c Tryd.prog 90 (mkCall ps90 rs90 K90) := call90 okK93
noncomputable def K84 : TF84 := F84 K90
theorem okK84 : z0c Tryd.prog 84 (mkCall ps84 rs84 K84) := call84 okK90
noncomputable def K94 : TF94 := F94
theorem okK94 : z0c Tryd.prog 94 (mkCallB psh94 rs94 m94 0 K94) := call94
noncomputable def K91 : TF91 := F91 K94
theorem okK91 : z0c Tryd.prog 91 (mkCallB psh91 rs91 m91 0 K91) := call91 okK94
noncomputable def K85u : TF85u := F85u K83u K91
theorem okK85u : z0c Tryd.prog 85 (mkCallB z5C rs85u m85u 2 K85u) := call85u okK83u okK91
noncomputable def Kg79u_1 : z3H.den → Option (denX z6Z) := iterL (S79u_1 K85u) 100
noncomputable def K79u : TF79u := F79u K84 Kg79u_1
theorem okK79u : z0c Tryd.prog 79 (mkCallB z3w z6L m79u 2 K79u) := call79u okK84 okK85u (z1j _ _)
noncomputable def K61u : TF61u := iterF (fun R => F61u R K77u K78u K79u) 100
theorem okK61u : z0c Tryd.prog 61 (mkCallB z3z z6O m61u 2 K61u) := z4Y ⟨Tryd.f61, Tryd.func61, by kernel_rfl, by kernel_rfl⟩ (fun R hR => call61u hR okK77u okK78u okK79u) 100
noncomputable def K83f : TF83f := F83f
theorem okK83f : z0c Tryd.prog 83 (mkCallB z3v z6K m83f 1 K83f) := call83f
noncomputable def K77f : TF77f := F77f K83f
theorem okK77f : z0c Tryd.prog 77 (mkCallB z3Y rs77f m77f 2 K77f) := call77f okK83f
noncomputable def K78f : TF78f := F78f K83f
theorem okK78f : z0c Tryd.prog 78 (mkCallB z3X rs78f m78f 2 K78f) := call78f okK83f
noncomputable def K61f : TF61f := F61f K61u K77f K77u K78f K78u K79u
theorem okK61f : z0c Tryd.prog 61 (mkCallB z5E rs61f m61f 2 K61f) := call61f okK61u okK77f okK77u okK78f okK78u okK79u
noncomputable def K62u : TF62u := F62u
theorem okK62u : z0c Tryd.prog 62 (mkCallB z5D rs62u m62u 1 K62u) := call62u
noncomputable def K36t : TF36t := F36t K60t K61f K62u
theorem okK36t : z0c Tryd.prog 36 (mkCallB z5G rs36t m36t 1 K36t) := call36t okK60t okK61f okK62u
noncomputable def Kg48_2 : z5r.den → Option (denX w48_2) := iterL (S48_2) 100
noncomputable def K48 : TF48 := F48 Kg48_2
theorem okK48 : z0c Tryd.prog 48 (mkCall ps48 rs48 K48) := call48 (z1j _ _)
noncomputable def K49 : TF49 := F49
theorem okK49 : z0c Tryd.prog 49 (mkCall ps49 rs49 K49) := call49
noncomputable def Kg13q_7 : z3I.den → Option (denX z7a) := iterL (S13q_7 K50) 100
noncomputable def K13q : TF13q := F13q K19q K48 K49 Kg13q_7
theorem okK13q : z0c Tryd.prog 13 (mkCallB z5K rs13q m13q 2 K13q) := call13q okK19q okK48 okK49 okK50 (z1j _ _)
noncomputable def Kg10_6 : z5s.den → Option (denX w10_6) := iterL (S10_6 K13q) 100
noncomputable def K10 : TF10 := F10 K11 K15q K22 K25 K28 K30 K34 K35t K36t Kg10_6
theorem okK10 : z0c Tryd.prog 10 (mkCall ps10 rs10 K10) := call10 okK11 okK13q okK15q okK22 okK25 okK28 okK30 okK34 okK35t okK36t (z1j _ _)
end Go.Proofs.Rf
namespace Go.Proofs.Rf
open Go Go.RowKit
abbrev Mp := List (It × Int)
def gm (m : Mp) (q : It) : Int := (lookM tIt tI m q).getD 0
theorem gm_set (m : Mp) (q q' : It) (u : Int) : gm (setM tIt tI m q u) q' = if q' = q then u else gm m q' := by
 unfold gm
 rw [look_set (kt := tIt) (vt := tI) rfl]
 by_cases h : q' = q
 ·rw [if_pos ((z0Q (kt := tIt) rfl q' q).2 h), if_pos h]; rfl
 ·rw [if_neg (fun e => h ((z0Q (kt := tIt) rfl q' q).1 e)), if_neg h]
def ct (l : List It) (n : Nat) (q : It) : Int := ((l.take n).count q : Int)
theorem ct_succ {l : List It} {n : Nat} (h : n < l.length) (q : It) : ct l (n + 1) q = ct l n q + if q = l.getD n (0, 0) then 1 else 0 := by
 unfold ct
 rw [← z5o (d := ((0, 0) : It)) h, List.count_append, List.count_singleton]
 by_cases e : q = l.getD n (0, 0)
 ·rw [if_pos e, e]; simp
 ·rw [if_neg e, if_neg (by simpa using fun q => e q.symm)]; simp
theorem ct_bound (l : List It) (n : Nat) (q : It) : 0 ≤ ct l n q ∧ ct l n q ≤ n := by
 unfold ct
 have h1 : (l.take n).count q ≤ (l.take n).length := List.count_le_length
 have h2 : (l.take n).length ≤ n := by simp; omega
 omega
def Cs (mine out : List It) (n : Nat) (m : Mp) : Prop := (m.map fun p => p.1).Nodup ∧ ∀ q, gm m q = ct out n q - ct mine n q
theorem Cs.step {mine out : List It} {n : Nat} {m : Mp} (h : Cs mine out n m) (h1 : n < mine.length) (h2 : n < out.length) (hl : n ≤ 10000) :
  Cs mine out (n + 1) (setM tIt tI (setM tIt tI (setM tIt tI (setM tIt tI m (out.getD n (0, 0)) (gm m (out.getD n (0, 0)))) (out.getD n (0, 0)) (IntKind.i64.wrap (gm m (out.getD n (0, 0)) + 1))) (mine.getD n (0, 0)) (gm (setM tIt tI (setM tIt tI m (out.getD n (0, 0)) (gm m (out.getD n (0, 0)))) (out.getD n (0, 0)) (IntKind.i64.wrap (gm m (out.getD n (0, 0)) + 1))) (mine.getD n (0, 0)))) (mine.getD n (0, 0))
   (IntKind.i64.wrap (gm (setM tIt tI (setM tIt tI m (out.getD n (0, 0)) (gm m (out.getD n (0, 0)))) (out.getD n (0, 0)) (IntKind.i64.wrap (gm m (out.getD n (0, 0)) + 1))) (mine.getD n (0, 0)) - 1))) := by
 obtain ⟨hn, hg⟩ := h
 have nd : ∀ {m : Mp} (q : It) (u : Int), (m.map fun p => p.1).Nodup → ((setM tIt tI m q u).map fun p => p.1).Nodup := fun q u h => (z1Z (kt := tIt) (vt := tI) rfl h).1
 refine ⟨nd _ _ (nd _ _ (nd _ _ (nd _ _ hn))), fun q => ?_⟩
 have b1 : ∀ q, -10000 ≤ gm m q ∧ gm m q ≤ 10000 := by
  intro q
  rw [hg]
  have := ct_bound out n q
  have := ct_bound mine n q
  omega
 have w1 : IntKind.i64.wrap (gm m (out.getD n (0, 0)) + 1) = gm m (out.getD n (0, 0)) + 1 := by
  have := b1 (out.getD n (0, 0))
  exact wi (by omega) (by omega)
 have g2 : ∀ q, gm (setM tIt tI (setM tIt tI m (out.getD n (0, 0)) (gm m (out.getD n (0, 0)))) (out.getD n (0, 0)) (gm m (out.getD n (0, 0)) + 1)) q = gm m q + if q = out.getD n (0, 0) then 1 else 0 := by
  intro q
  rw [gm_set, gm_set]
  by_cases e : q = out.getD n (0, 0)
  ·simp only [if_pos e]; rw [e]
  ·simp only [if_neg e]; omega
 have w2 : IntKind.i64.wrap (gm (setM tIt tI (setM tIt tI m (out.getD n (0, 0)) (gm m (out.getD n (0, 0)))) (out.getD n (0, 0)) (gm m (out.getD n (0, 0)) + 1)) (mine.getD n (0, 0)) - 1) = gm (setM tIt tI (setM tIt tI m (out.getD n (0, 0)) (gm m (out.getD n (0, 0)))) (out.getD n (0, 0)) (gm m (out.getD n (0, 0)) + 1)) (mine.getD n (0, 0)) - 1 := by
  rw [g2]
  have := b1 (mine.getD n (0, 0))
  split <;> exact wi (by omega) (by omega)
 rw [w1, w2, ct_succ h1, ct_succ h2]
 generalize setM tIt tI (setM tIt tI m (out.getD n (0, 0)) (gm m (out.getD n (0, 0)))) (out.getD n (0, 0)) (gm m (out.getD n (0, 0)) + 1) = M2 at g2 ⊢
 rw [gm_set, gm_set]
 have e1 := g2 q
 have e2 := hg q
 by_cases e : q = mine.getD n (0, 0)
 ·simp only [if_pos e]
  rw [← e, e1]
  split <;> omega
 ·simp only [if_neg e]
  rw [e1]
  split <;> omega
theorem S5_9_val {mine out : List It} {n : Nat} {m : Mp} (hl : out.length ≤ 10000) (hm : mine.length = out.length) (hs : Sd out) (h : Cs mine out n m) (hn : n < out.length) :
  ∃ m', S5_9 ((mine, out, (), out, (out.length : Int), (n : Int), ()), (m, ())) = some (Sum.inl ((mine, out, (), out, (out.length : Int), ((n + 1 : Nat) : Int), ()), (m', ()))) ∧ Cs mine out (n + 1) m' := by
 have hst := h.step (by omega) hn (by omega)
 refine ⟨_, ?_, hst⟩
 have w1 : IntKind.i64.wrap ((n : Int) + 1) = ((n + 1 : Nat) : Int) := by rw [wi (by omega) (by omega)]; omega
 rw [S5_9_eq, if_pos (by simp; omega), if_pos (by omega), if_pos (by omega)]
 by_cases h0 : n = 0
 ·subst h0
  rw [if_neg (by simp), if_pos (by omega), if_pos (by omega), w1]
  rfl
 ·have w2 : IntKind.i64.wrap ((n : Int) - 1) = ((n - 1 : Nat) : Int) := by rw [wi (by omega) (by omega)]; omega
  have hle := hs (n - 1) n (by omega) hn
  rw [if_pos (by simp; omega), w2, if_pos (by omega), if_pos (by omega), if_neg (by simpa using hle), if_pos (by omega), if_pos (by omega), w1]
  rfl
theorem Cs.zero {mine out : List It} {m : Mp} (h : Cs mine out out.length m) (hp : out.Perm mine) : ∀ p ∈ m, p.2 = 0 := by
 obtain ⟨hn, hg⟩ := h
 intro p hp'
 have h1 : lookM tIt tI m p.1 = some p.2 := (z4B (kt := tIt) (vt := tI) rfl hn).2 hp'
 have h2 := hg p.1
 unfold gm at h2
 rw [h1] at h2
 have h3 : ct out out.length p.1 = ct mine out.length p.1 := by
  unfold ct
  rw [List.take_length, show mine.take out.length = mine by rw [hp.length_eq, List.take_length], hp.count_eq]
 have h2 : p.2 = ct out out.length p.1 - ct mine out.length p.1 := h2
 omega
theorem z7x : ∀ (k : Nat) (m : Mp), m.length = k → (∀ p ∈ m, p.2 = 0) → goodM L5_17 S5_17 (k + 1) (((), ()), (m, ())) (Sum.inr ((), ()))
 | 0, m, hl, h => by
  have : m = [] := List.eq_nil_of_length_eq_zero hl
  subst this
  simp only [goodM]
  rw [L5_17_eq]
  refine ⟨fun _ => ?_, fun p r hp => by simpa using hp.length_eq⟩
  rw [S5_17n_eq]
  rfl
 | k + 1, m, hl, h => by
  simp only [goodM]
  rw [L5_17_eq]
  refine ⟨fun e => by rw [e] at hl; simp at hl, fun p r hp => ?_⟩
  obtain ⟨⟨k0, k1⟩, v⟩ := p
  have hv : v = 0 := h ((k0, k1), v) (hp.mem_iff.2 (List.mem_cons_self ..))
  rw [S5_17c_eq, hv, if_neg (by decide)]
  exact z7x k r (by have := hp.length_eq; simp at this; omega) fun p hp' => h p (hp.mem_iff.2 (List.mem_cons_of_mem _ hp'))
end Go.Proofs.Rf
namespace Go.Proofs.Rf
open Go Go.RowKit
theorem Lg5_9_val (mine out : List It) (hl : out.length ≤ 10000) (hm : mine.length = out.length) (hs : Sd out) :
  ∃ m, Lg5_9 ((mine, out, (), out, (out.length : Int), ((0 : Nat) : Int), ()), ([], ())) = some (Sum.inr (((), ()), (m, ()))) ∧ Cs mine out out.length m := by
 obtain ⟨z, h1, m, h2, h3⟩ := z2I (f := S5_9) (fun x => out.length - x.1.2.2.2.2.2.1.toNat) (fun x => ∃ (n : Nat) (m : Mp), n ≤ out.length ∧ x = ((mine, out, (), out, (out.length : Int), (n : Int), ()), (m, ())) ∧ Cs mine out n m) (fun z => ∃ m, z = Sum.inr (((), ()), (m, ())) ∧ Cs mine out out.length m) (by
  rintro x ⟨n, m, hn, rfl, hc⟩
  by_cases h : n < out.length
  ·obtain ⟨m', e, hc'⟩ := S5_9_val hl hm hs hc h
   refine .inl ⟨_, e, ⟨n + 1, m', by omega, rfl, hc'⟩, ?_⟩
   show out.length - (((n + 1 : Nat) : Int)).toNat < out.length - (n : Int).toNat
   omega
  ·obtain rfl : n = out.length := by omega
   refine .inr ⟨Sum.inr (((), ()), (m, ())), ?_, m, rfl, hc⟩
   rw [show S5_9 _ = _ from S5_9_eq _ _ _ _ _ _, if_neg (by simp)]) ((mine, out, (), out, (out.length : Int), ((0 : Nat) : Int), ()), ([], ())) ⟨0, [], by omega, rfl, List.nodup_nil, fun q => by simp [gm, lookM, ct]⟩
 exact ⟨m, h1.trans (congrArg some h2), h3⟩
theorem K10_val5 : K10 () = some ((true, ()), ()) := by kernel_rfl
noncomputable def law5 : (SV.denL ps5) → Option (rs5).den := F5 K10 L22 L25 L26 Lg5_9 Lg5_17
theorem law5_ok : z0c Tryd.prog 5 (mkCall ps5 rs5 law5) := call5 okK10 okL22 okL25 okL26 (z1P _) lim_limM
theorem law5_true (l : List It) : law5 (l, ()) = some ((true, ()), ()) := by
 rw [show law5 (l, ()) = _ from F5_eq K10 L22 L25 L26 Lg5_9 Lg5_17 l]
 by_cases h : (l.length : Int) > 200
 ·rw [if_pos (by simpa using h), K10_val5]
  rfl
 ·rw [if_neg (by simpa using h)]
  obtain ⟨out, e, hp, hs⟩ := L26_val l (by omega)
  have hlen := hp.length_eq
  rw [L22_val l (by omega), Option.bind_some]
  simp only
  rw [e, Option.bind_some]
  simp only
  rw [if_neg (by simp [hlen]), L25_val l (by omega), Option.bind_some]
  simp only
  rw [if_neg (by simp)]
  obtain ⟨m, e1, hc⟩ := Lg5_9_val l out (by omega) hlen.symm hs
  rw [show Lg5_9 ((l, out, (), out, (out.length : Int), 0, ()), [], ()) = _ from e1, Option.bind_some]
  simp only [Sum.elim_inr]
  rw [show Lg5_17 (((), ()), m, ()) = some (Sum.inr ((), ())) from limM_some _ (z7x m.length m rfl (hc.zero hp)), Option.bind_some]
  simp only [Sum.elim_inr]
  rw [K10_val5]
  rfl
end Go.Proofs.Rf
namespace Go.Proofs.Rf
open Go Go.ChangeShapes Go.WideShapes Go.ChangeAt Go.RowKit
abbrev laid36 : List (String × DataW Unit) := Go.Proofs.YtfabaiiobdhocaaDoor.Rows.sortingMergesRow.laid
theorem cells133 : Tryd.prog.cellsOf 133 = 1 := by kernel_rfl
theorem cells134 : Tryd.prog.cellsOf 134 = 2 := by kernel_rfl
theorem cells132 : Tryd.prog.cellsOf 132 = 1 := by kernel_rfl
set_option maxRecDepth 100000 in
theorem gl36 {W : World} (h : laidMetH Tryd.prog laid36 W) : GlOK W (fun b => b < W.heap.size) := by
 obtain ⟨g, t, cs, fuel, p, hg, ht, hv, hd⟩ := h.funcs (n := "bowline/sorting.orders") (d := .agg [.agg [.iface "func" (.lit (.string [98, 111, 119, 108, 105, 110, 101, 47, 115, 111, 114, 116, 105, 110, 103, 46, 111, 114, 100, 101, 114, 115, 36, 49]))], .agg [.iface "func" (.lit (.string [98, 111, 119, 108, 105, 110, 101, 47, 115, 111, 114, 116, 105, 110, 103, 46, 111, 114, 100, 101, 114, 115, 36, 50]))]])
  (List.mem_cons_of_mem _ (List.mem_cons_of_mem _ (List.mem_cons_of_mem _ (List.mem_cons_self ..))))
 obtain rfl := Option.some.inj ((show Tryd.prog.globalNamed "bowline/sorting.orders" = some 0 by kernel_rfl).symm.trans hg)
 obtain rfl := Option.some.inj ((show (Tryd.prog.globals[0]?).map (·.type) = some 134 by kernel_rfl).symm.trans ht)
 have hd' : DataW.trod (funcToken Tryd.prog) Tryd.prog W 0 (fun _ => true) true fuel 134 cs.toList = some (.agg [.agg [.held [98, 111, 119, 108, 105, 110, 101, 47, 115, 111, 114, 116, 105, 110, 103, 46, 111, 114, 100, 101, 114, 115, 36, 49]], .agg [.held [98, 111, 119, 108, 105, 110, 101, 47, 115, 111, 114, 116, 105, 110, 103, 46, 111, 114, 100, 101, 114, 115, 36, 50]]], p) := hd
 obtain ⟨xs, m, _, hx, hlen, hn, hel⟩ := DataW.trod_array Tryd.underlying134 hd'
 rw [cells134] at hlen
 obtain ⟨c0, c1, hcs⟩ : ∃ c0 c1, cs.toList = [c0, c1] := by
  match hq : cs.toList, hlen with
  | [a, b], _ => exact ⟨a, b, rfl⟩
 obtain ⟨y0, y1, hxs⟩ : ∃ y0 y1, xs = [y0, y1] := by
  match hq : xs, hn with
  | [a, b], _ => exact ⟨a, b, rfl⟩
 subst hxs
 rw [hcs] at hel
 have e0 : DataW.trod (funcToken Tryd.prog) Tryd.prog W 0 (fun _ => true) true m 133 [c0] = some y0 := by
  have := hel 0 (by omega)
  rw [cells133] at this
  exact this
 have e1 : DataW.trod (funcToken Tryd.prog) Tryd.prog W 0 (fun _ => true) true m 133 [c1] = some y1 := by
  have := hel 1 (by omega)
  rw [cells133] at this
  exact this
 obtain ⟨z0, n0, q0, _, r0⟩ := trod_struct1 Tryd.underlying133 e0
 obtain ⟨z1, n1, q1, _, r1⟩ := trod_struct1 Tryd.underlying133 e1
 subst q0; subst q1
 have hx1 := congrArg Prod.fst hx
 simp only [List.map_cons, List.map_nil] at hx1
 injection hx1 with hx1
 injection hx1 with a0 hx1
 injection hx1 with a1 _
 injection a0 with a0
 injection a0 with a0 _
 injection a1 with a1
 injection a1 with a1 _
 have r0 : DataW.trod (funcToken Tryd.prog) Tryd.prog W 0 (fun _ => true) true n0 132 [c0] = some z0 := by
  have := r0
  rw [show (Tryd.prog.cellsOf _) = 1 from cells132] at this
  exact this
 have r1 : DataW.trod (funcToken Tryd.prog) Tryd.prog W 0 (fun _ => true) true n1 132 [c1] = some z1 := by
  have := r1
  rw [show (Tryd.prog.cellsOf _) = 1 from cells132] at this
  exact this
 obtain ⟨z0, zq0⟩ := z0
 obtain ⟨z1, zq1⟩ := z1
 simp only at a0 a1
 subst a0; subst a1
 have f0 := Go.func_of_trod (f0 := 123) Tryd.underlying132 (by kernel_rfl) r0
 have f1 := Go.func_of_trod (f0 := 124) Tryd.underlying132 (by kernel_rfl) r1
 subst f0; subst f1
 refine ⟨fun g us hgl => ?_, fun g hg => (by cases hg)⟩
 unfold glob at hgl
 split at hgl
 ·injection hgl with hgl
  subst hgl
  unfold World.var? at hv
  rw [show Tryd.prog.globalNamed "bowline/sorting.orders" = some 0 by kernel_rfl] at hv
  simp only [Option.bind_some] at hv
  split at hv
  ·rename_i cs' e' fz hh
   injection hv with hv
   subst hv
   have hcs : cs' = List.toArray [.func (.func 123) #[] #[], .func (.func 124) #[] #[]] := by
    apply Array.ext'
    simpa using hcs
   refine ⟨(Array.getElem?_eq_some_iff.1 hh).1, by simp, e', fz, by rw [hh, hcs]⟩
  ·cases hv
 ·cases hgl
end Go.Proofs.Rf
