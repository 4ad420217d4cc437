/- Texts put together: Q36, EQ360, E26, L36, A1, A2, A3, H1, H2, H3, H4, A4, K36, H5, Gg, Gx, Gh. -/
import Derived.Test.YtfabaiiobdhocaaDoorM2
import Derived.Below
import Derived.Test.YtfabaiiobdhocaaDoorRows
import Derived.WalkKit
import Derived.ProofKit
import Derived.OpenShut
import Derived.LaidMore
import Derived.Stop.Joined
import Derived.ChangeOld
import Derived.ChangeArms
import Derived.Carry
/- The functions of the program as functions over data. -/
namespace Go.Proofs.Rf
open Go Go.RowKit
abbrev tb : Tab := tabOf tyTab
theorem mixed : Tryd.prog.follows .mixedOrders = true := by kernel_rfl
theorem ext89 : ExtOK Tryd.prog 89 sameO := same_ok Tryd.func89 (by kernel_rfl) (by kernel_rfl) (by kernel_rfl) (by kernel_rfl)
abbrev tI : Ty := .int .i64
abbrev tIt : Ty := .pr (.int .i64) (.int .i64)
abbrev tEn : Ty := .pr tIt (.int .i64)
abbrev tR : Ty := .tr (.pr (.int .i64) (.int .u64)) (.int .i64)
/-! 11 bowline/sorting.NewQueue -/
abbrev ps11 : List SV := []
abbrev rs11 : Shape := ⟨[(0, .pt 0 0)], [.box 90 [.rf 1, .d false tI], .row tEn 96]⟩
noncomputable def F11 : (SV.denL ps11) → Option (rs11).den := runFn tb [] [] Tryd.f11 ps11 rs11
theorem call11 : CallOK Tryd.prog 11 (mkCall ps11 rs11 (F11)) :=
  runFn_ok mixed tabOK (Δ := []) trivial ⟨Tryd.func11, rfl, by kernel_rfl, by kernel_rfl, by kernel_rfl, by kernel_rfl⟩ rfl (loopsAt_zip (Λ := []) (cs := []) (by kernel_rfl) (by kernel_rfl) (by kernel_rfl) trivial)
/-! 19 (*bowline/sorting.Queue).Len -/
abbrev psh19q : Shape := ⟨[(0, .pt 0 0)], [.box 90 [.rf 1, .d false tI], .row tEn 96]⟩
abbrev m19q : List Nat := [0]
abbrev rs19q : Shape := ⟨[(0, .pt 0 0), (1, .d false tI)], [.box 90 [.rf 1, .d false tI], .row tEn 96]⟩
noncomputable def F19q : (psh19q.den) → Option (rs19q).den := runFnB tb [] [] Tryd.f19 psh19q rs19q 1
theorem call19q : CallOK Tryd.prog 19 (mkCallB psh19q rs19q m19q 1 (F19q)) :=
  runFnB_ok mixed tabOK (Δ := []) trivial ⟨Tryd.func19, rfl, by kernel_rfl, by kernel_rfl, by kernel_rfl, by kernel_rfl, by kernel_rfl, by kernel_rfl, by kernel_rfl, by kernel_rfl, by kernel_rfl⟩ rfl (loopsAt_zip (Λ := []) (cs := []) (by kernel_rfl) (by kernel_rfl) (by kernel_rfl) trivial)
/-! 17 (*bowline/sorting.Queue).Peek -/
abbrev psh17q : Shape := ⟨[(0, .pt 0 0)], [.box 90 [.rf 1, .d false tI], .row tEn 96]⟩
abbrev m17q : List Nat := [0]
abbrev rs17q : Shape := ⟨[(0, .pt 0 0), (1, .d true tIt), (2, .d false tI)], [.box 90 [.rf 1, .d false tI], .row tEn 96]⟩
noncomputable def F17q (F19q : (psh19q.den) → Option (rs19q).den) : (psh17q.den) → Option (rs17q).den := runFnB tb [(19, mkCallB psh19q rs19q m19q 1 F19q)] [] Tryd.f17 psh17q rs17q 1
theorem call17q {F19q : (psh19q.den) → Option (rs19q).den} (h19q : CallOK Tryd.prog 19 (mkCallB psh19q rs19q m19q 1 F19q)) : CallOK Tryd.prog 17 (mkCallB psh17q rs17q m17q 1 (F17q F19q)) :=
  runFnB_ok mixed tabOK (Δ := [(19, mkCallB psh19q rs19q m19q 1 F19q)]) ⟨.inl h19q, trivial⟩ ⟨Tryd.func17, rfl, by kernel_rfl, by kernel_rfl, by kernel_rfl, by kernel_rfl, by kernel_rfl, by kernel_rfl, by kernel_rfl, by kernel_rfl, by kernel_rfl⟩ rfl (loopsAt_zip (Λ := []) (cs := []) (by kernel_rfl) (by kernel_rfl) (by kernel_rfl) trivial)
/-! 123 bowline/sorting.orders$1 -/
abbrev ps123 : List SV := [.d true tEn, .d true tEn]
abbrev rs123 : Shape := ⟨[(0, .d false .bool)], []⟩
noncomputable def F123 : (SV.denL ps123) → Option (rs123).den := runFn tb [] [] Tryd.f123 ps123 rs123
theorem call123 : CallOK Tryd.prog 123 (mkCall ps123 rs123 (F123)) :=
  runFn_ok mixed tabOK (Δ := []) trivial ⟨Tryd.func123, rfl, by kernel_rfl, by kernel_rfl, by kernel_rfl, by kernel_rfl⟩ rfl (loopsAt_zip (Λ := []) (cs := []) (by kernel_rfl) (by kernel_rfl) (by kernel_rfl) trivial)
/-! 124 bowline/sorting.orders$2 -/
abbrev ps124 : List SV := [.d true tEn, .d true tEn]
abbrev rs124 : Shape := ⟨[(0, .d false .bool)], []⟩
noncomputable def F124 : (SV.denL ps124) → Option (rs124).den := runFn tb [] [] Tryd.f124 ps124 rs124
theorem call124 : CallOK Tryd.prog 124 (mkCall ps124 rs124 (F124)) :=
  runFn_ok mixed tabOK (Δ := []) trivial ⟨Tryd.func124, rfl, by kernel_rfl, by kernel_rfl, by kernel_rfl, by kernel_rfl⟩ rfl (loopsAt_zip (Λ := []) (cs := []) (by kernel_rfl) (by kernel_rfl) (by kernel_rfl) trivial)
/-! 50 (bowline/sorting.entry).before -/
abbrev ps50 : List SV := [.d true tEn, .d true tEn]
abbrev rs50 : Shape := ⟨[(0, .d false .bool)], []⟩
abbrev sh50_2 : Shape := ⟨[(2, .pt 0 0), (3, .pt 1 0), (7, .d true (.pr (.fk 123) (.fk 124))), (8, .d false tI)], [.box 96 [.d false tI, .d false tI, .d false tI], .box 96 [.d false tI, .d false tI, .d false tI]]⟩
abbrev w50_2 : List Way := [(none, ⟨[(4, .d false .bool)], []⟩), (some 0, ⟨[], []⟩)]
noncomputable def S50_2 (F123 : (SV.denL ps123) → Option (rs123).den) (F124 : (SV.denL ps124) → Option (rs124).den) : sh50_2.den → Option (sh50_2.den ⊕ denX w50_2) := stepFn tb [(123, mkCall ps123 rs123 F123), (124, mkCall ps124 rs124 F124)] [] (upTo 29) Tryd.f50 2 sh50_2 w50_2
noncomputable def F50 (g50_2 : sh50_2.den → Option (denX w50_2)) : (SV.denL ps50) → Option (rs50).den := runFn tb [] [(2, lp sh50_2 w50_2 g50_2)] Tryd.f50 ps50 rs50
theorem call50 {F123 : (SV.denL ps123) → Option (rs123).den} {F124 : (SV.denL ps124) → Option (rs124).den} {g50_2 : sh50_2.den → Option (denX w50_2)} (h123 : CallOK Tryd.prog 123 (mkCall ps123 rs123 F123)) (h124 : CallOK Tryd.prog 124 (mkCall ps124 rs124 F124)) (hg50_2 : Lim (S50_2 F123 F124) g50_2) : CallOK Tryd.prog 50 (mkCall ps50 rs50 (F50 g50_2)) :=
  runFn_ok mixed tabOK (Δ := []) trivial ⟨Tryd.func50, rfl, by kernel_rfl, by kernel_rfl, by kernel_rfl, by kernel_rfl⟩ rfl (loopsAt_zip (cs := [.loop (loopOf Tryd.f50 2)]) (by kernel_rfl) (by kernel_rfl) (by kernel_rfl) ⟨stepLim_ok mixed tabOK (Δ := [(123, mkCall ps123 rs123 F123), (124, mkCall ps124 rs124 F124)]) ⟨.inl h123, .inl h124, trivial⟩ hg50_2 (loopsAt_zip (Λ := []) (cs := []) (by kernel_rfl) (by kernel_rfl) (by kernel_rfl) trivial), trivial⟩)
/-! 15 (*bowline/sorting.Queue).Pop -/
abbrev psh15q : Shape := ⟨[(0, .pt 0 0)], [.box 90 [.rf 1, .d false tI], .row tEn 96]⟩
abbrev m15q : List Nat := [0]
abbrev rs15q : Shape := ⟨[(0, .pt 0 0), (1, .d true tIt), (2, .d false tI)], [.box 90 [.rf 1, .d false tI], .row tEn 96]⟩
abbrev sh15q_12 : Shape := ⟨[(0, .pt 0 0), (2, .pt 1 0), (4, .pt 2 0), (6, .d false tI), (7, .d false tI), (8, .d false tI), (56, .d false tI)], [.box 90 [.rf 3, .d false tI], .box 33 [.d false tI, .d false tI], .box 33 [.d false tI, .d false tI], .row tEn 96]⟩
abbrev w15q_12 : List Way := [(some 2, ⟨[(0, .pt 0 0), (2, .pt 1 0), (4, .pt 2 0), (6, .d false tI), (7, .d false tI), (8, .d false tI)], [.box 90 [.rf 3, .d false tI], .box 33 [.d false tI, .d false tI], .box 33 [.d false tI, .d false tI], .row tEn 96]⟩)]
abbrev sh15q_10 : Shape := ⟨[(0, .pt 0 0), (2, .pt 1 0), (4, .pt 2 0), (6, .d false tI), (7, .d false tI)], [.box 90 [.rf 3, .d false tI], .box 33 [.d false tI, .d false tI], .box 33 [.d false tI, .d false tI], .row tEn 96]⟩
abbrev w15q_10 : List Way := [(none, ⟨[(0, .pt 0 0), (2, .pt 1 0), (3, .d false tI)], [.box 90 [.rf 2, .d false tI], .box 33 [.d false tI, .d false tI], .row tEn 96]⟩)]
noncomputable def S15q_12 (F50 : (SV.denL ps50) → Option (rs50).den) : sh15q_12.den → Option (sh15q_12.den ⊕ denX w15q_12) := stepFn tb [(50, mkCall ps50 rs50 F50)] [] (roundOk (upTo 117) (rangeN 0 1)) Tryd.f15 12 sh15q_12 w15q_12
noncomputable def S15q_10 (g15q_12 : sh15q_12.den → Option (denX w15q_12)) : sh15q_10.den → Option (sh15q_10.den ⊕ denX w15q_10) := stepFn tb [] [(12, lp sh15q_12 w15q_12 g15q_12)] (roundOk (upTo 117) (rangeN 0 1)) Tryd.f15 10 sh15q_10 w15q_10
noncomputable def F15q (F17q : (psh17q.den) → Option (rs17q).den) (g15q_10 : sh15q_10.den → Option (denX w15q_10)) : (psh15q.den) → Option (rs15q).den := runFnB tb [(17, mkCallB psh17q rs17q m17q 1 F17q)] [(10, lp sh15q_10 w15q_10 g15q_10)] Tryd.f15 psh15q rs15q 1
theorem call15q {F17q : (psh17q.den) → Option (rs17q).den} {F50 : (SV.denL ps50) → Option (rs50).den} {g15q_12 : sh15q_12.den → Option (denX w15q_12)} {g15q_10 : sh15q_10.den → Option (denX w15q_10)} (h17q : CallOK Tryd.prog 17 (mkCallB psh17q rs17q m17q 1 F17q)) (h50 : CallOK Tryd.prog 50 (mkCall ps50 rs50 F50)) (hg15q_12 : Lim (S15q_12 F50) g15q_12) (hg15q_10 : Lim (S15q_10 g15q_12) g15q_10) : CallOK Tryd.prog 15 (mkCallB psh15q rs15q m15q 1 (F15q F17q g15q_10)) :=
  runFnB_ok mixed tabOK (Δ := [(17, mkCallB psh17q rs17q m17q 1 F17q)]) ⟨.inl h17q, trivial⟩ ⟨Tryd.func15, rfl, by kernel_rfl, by kernel_rfl, by kernel_rfl, by kernel_rfl, by kernel_rfl, by kernel_rfl, by kernel_rfl, by kernel_rfl, by kernel_rfl⟩ rfl (loopsAt_zip (cs := [.loop (loopOf Tryd.f15 10)]) (by kernel_rfl) (by kernel_rfl) (by kernel_rfl) ⟨stepLim_ok mixed tabOK (Δ := []) trivial hg15q_10 (loopsAt_zip (cs := [.loop (loopOf Tryd.f15 12)]) (by kernel_rfl) (by kernel_rfl) (by kernel_rfl) ⟨stepLim_ok mixed tabOK (Δ := [(50, mkCall ps50 rs50 F50)]) ⟨.inl h50, trivial⟩ hg15q_12 (loopsAt_zip (Λ := []) (cs := []) (by kernel_rfl) (by kernel_rfl) (by kernel_rfl) trivial), trivial⟩), trivial⟩)
/-! 22 bowline/bowlinelaw36.given -/
abbrev ps22 : List SV := [.d false (.sl tIt)]
abbrev rs22 : Shape := ⟨[(0, .d false (.sl tIt))], []⟩
abbrev sh22_3 : Shape := ⟨[(3, .rf 0), (6, .d false (.sl tIt)), (7, .d false tI), (8, .d false tI)], [.row tIt 33]⟩
abbrev w22_3 : List Way := [(some 0, ⟨[(3, .rf 0)], [.row tIt 33]⟩)]
noncomputable def S22_3 : sh22_3.den → Option (sh22_3.den ⊕ denX w22_3) := stepFn tb [] [] (upTo 18) Tryd.f22 3 sh22_3 w22_3
noncomputable def F22 (g22_3 : sh22_3.den → Option (denX w22_3)) : (SV.denL ps22) → Option (rs22).den := runFn tb [] [(3, lp sh22_3 w22_3 g22_3)] Tryd.f22 ps22 rs22
theorem call22 {g22_3 : sh22_3.den → Option (denX w22_3)} (hg22_3 : Lim (S22_3) g22_3) : CallOK Tryd.prog 22 (mkCall ps22 rs22 (F22 g22_3)) :=
  runFn_ok mixed tabOK (Δ := []) trivial ⟨Tryd.func22, rfl, by kernel_rfl, by kernel_rfl, by kernel_rfl, by kernel_rfl⟩ rfl (loopsAt_zip (cs := [.loop (loopOf Tryd.f22 3)]) (by kernel_rfl) (by kernel_rfl) (by kernel_rfl) ⟨stepLim_ok mixed tabOK (Δ := []) trivial hg22_3 (loopsAt_zip (Λ := []) (cs := []) (by kernel_rfl) (by kernel_rfl) (by kernel_rfl) trivial), trivial⟩)
/-! 25 bowline/bowlinelaw36.same -/
abbrev ps25 : List SV := [.d false (.sl tIt), .d false (.sl tIt)]
abbrev rs25 : Shape := ⟨[(0, .d false .bool)], []⟩
abbrev sh25_4 : Shape := ⟨[(1, .d false (.sl tIt)), (12, .d false (.sl tIt)), (13, .d false tI), (14, .d false tI)], []⟩
abbrev w25_4 : List Way := [(none, ⟨[(4, .d false .bool)], []⟩), (some 0, ⟨[], []⟩)]
noncomputable def S25_4 : sh25_4.den → Option (sh25_4.den ⊕ denX w25_4) := stepFn tb [] [] (upTo 26) Tryd.f25 4 sh25_4 w25_4
noncomputable def F25 (g25_4 : sh25_4.den → Option (denX w25_4)) : (SV.denL ps25) → Option (rs25).den := runFn tb [] [(4, lp sh25_4 w25_4 g25_4)] Tryd.f25 ps25 rs25
theorem call25 {g25_4 : sh25_4.den → Option (denX w25_4)} (hg25_4 : Lim (S25_4) g25_4) : CallOK Tryd.prog 25 (mkCall ps25 rs25 (F25 g25_4)) :=
  runFn_ok mixed tabOK (Δ := []) trivial ⟨Tryd.func25, rfl, by kernel_rfl, by kernel_rfl, by kernel_rfl, by kernel_rfl⟩ rfl (loopsAt_zip (cs := [.loop (loopOf Tryd.f25 4)]) (by kernel_rfl) (by kernel_rfl) (by kernel_rfl) ⟨stepLim_ok mixed tabOK (Δ := []) trivial hg25_4 (loopsAt_zip (Λ := []) (cs := []) (by kernel_rfl) (by kernel_rfl) (by kernel_rfl) trivial), trivial⟩)
/-! 28 bowline/sorting.Mix -/
abbrev ps28 : List SV := [.d false tI, .d false tI]
abbrev rs28 : Shape := ⟨[(0, .d false (.int .u64))], []⟩
noncomputable def F28 : (SV.denL ps28) → Option (rs28).den := runFn tb [] [] Tryd.f28 ps28 rs28
theorem call28 : CallOK Tryd.prog 28 (mkCall ps28 rs28 (F28)) :=
  runFn_ok mixed tabOK (Δ := []) trivial ⟨Tryd.func28, rfl, by kernel_rfl, by kernel_rfl, by kernel_rfl, by kernel_rfl⟩ rfl (loopsAt_zip (Λ := []) (cs := []) (by kernel_rfl) (by kernel_rfl) (by kernel_rfl) trivial)
/-! 53 (bowline/sorting.Item).below -/
abbrev ps53 : List SV := [.d true tIt, .d true tIt]
abbrev rs53 : Shape := ⟨[(0, .d false .bool)], []⟩
noncomputable def F53 : (SV.denL ps53) → Option (rs53).den := runFn tb [] [] Tryd.f53 ps53 rs53
theorem call53 : CallOK Tryd.prog 53 (mkCall ps53 rs53 (F53)) :=
  runFn_ok mixed tabOK (Δ := []) trivial ⟨Tryd.func53, rfl, by kernel_rfl, by kernel_rfl, by kernel_rfl, by kernel_rfl⟩ rfl (loopsAt_zip (Λ := []) (cs := []) (by kernel_rfl) (by kernel_rfl) (by kernel_rfl) trivial)
/-! 52 bowline/sorting.merged[bowline/sorting.Item] -/
abbrev ps52 : List SV := [.d false (.sl tIt), .d false (.sl tIt), .d false (.fk 53)]
abbrev rs52 : Shape := ⟨[(0, .d false (.sl tIt))], []⟩
abbrev sh52_2 : Shape := ⟨[(0, .d false (.sl tIt)), (1, .d false (.sl tIt)), (2, .fn 53 []), (7, .rf 0)], [.row tIt 33]⟩
abbrev w52_2 : List Way := [(some 0, ⟨[(0, .d false (.sl tIt)), (1, .d false (.sl tIt)), (7, .rf 0)], [.row tIt 33]⟩)]
noncomputable def S52_2 (F53 : (SV.denL ps53) → Option (rs53).den) : sh52_2.den → Option (sh52_2.den ⊕ denX w52_2) := stepFn tb [(53, mkCall ps53 rs53 F53)] [] (upTo 51) Tryd.f52 2 sh52_2 w52_2
noncomputable def F52 (g52_2 : sh52_2.den → Option (denX w52_2)) : (SV.denL ps52) → Option (rs52).den := runFn tb [] [(2, lp sh52_2 w52_2 g52_2)] Tryd.f52 ps52 rs52
theorem call52 {F53 : (SV.denL ps53) → Option (rs53).den} {g52_2 : sh52_2.den → Option (denX w52_2)} (h53 : CallOK Tryd.prog 53 (mkCall ps53 rs53 F53)) (hg52_2 : Lim (S52_2 F53) g52_2) : CallOK Tryd.prog 52 (mkCall ps52 rs52 (F52 g52_2)) :=
  runFn_ok mixed tabOK (Δ := []) trivial ⟨Tryd.func52, rfl, by kernel_rfl, by kernel_rfl, by kernel_rfl, by kernel_rfl⟩ rfl (loopsAt_zip (cs := [.loop (loopOf Tryd.f52 2)]) (by kernel_rfl) (by kernel_rfl) (by kernel_rfl) ⟨stepLim_ok mixed tabOK (Δ := [(53, mkCall ps53 rs53 F53)]) ⟨.inl h53, trivial⟩ hg52_2 (loopsAt_zip (Λ := []) (cs := []) (by kernel_rfl) (by kernel_rfl) (by kernel_rfl) trivial), trivial⟩)
/-! 74 slices.Clone[[]bowline/sorting.Item,bowline/sorting.Item] -/
abbrev ps74 : List SV := [.d false (.sl tIt)]
abbrev rs74 : Shape := ⟨[(0, .d false (.sl tIt))], []⟩
noncomputable def F74 : (SV.denL ps74) → Option (rs74).den := runFn tb [] [] Tryd.f74 ps74 rs74
theorem call74 : CallOK Tryd.prog 74 (mkCall ps74 rs74 (F74)) :=
  runFn_ok mixed tabOK (Δ := []) trivial ⟨Tryd.func74, rfl, by kernel_rfl, by kernel_rfl, by kernel_rfl, by kernel_rfl⟩ rfl (loopsAt_zip (Λ := []) (cs := []) (by kernel_rfl) (by kernel_rfl) (by kernel_rfl) trivial)
/-! 56 bowline/sorting.ordered[bowline/sorting.Item] -/
abbrev ps56 : List SV := [.d false (.sl tIt), .d false (.fk 53)]
abbrev rs56 : Shape := ⟨[(0, .d false (.sl tIt))], []⟩
noncomputable def F56 (F52 : (SV.denL ps52) → Option (rs52).den) (R56 : (SV.denL ps56) → Option (rs56).den) (F74 : (SV.denL ps74) → Option (rs74).den) : (SV.denL ps56) → Option (rs56).den := runFn tb [(52, mkCall ps52 rs52 F52), (56, mkCall ps56 rs56 R56), (74, mkCall ps74 rs74 F74)] [] Tryd.f56 ps56 rs56
theorem call56 {F52 : (SV.denL ps52) → Option (rs52).den} {R56 : (SV.denL ps56) → Option (rs56).den} {F74 : (SV.denL ps74) → Option (rs74).den} (h52 : CallOK Tryd.prog 52 (mkCall ps52 rs52 F52)) (h56 : CallOK Tryd.prog 56 (mkCall ps56 rs56 R56)) (h74 : CallOK Tryd.prog 74 (mkCall ps74 rs74 F74)) : CallOK Tryd.prog 56 (mkCall ps56 rs56 (F56 F52 R56 F74)) :=
  runFn_ok mixed tabOK (Δ := [(52, mkCall ps52 rs52 F52), (56, mkCall ps56 rs56 R56), (74, mkCall ps74 rs74 F74)]) ⟨.inl h52, .inl h56, .inl h74, trivial⟩ ⟨Tryd.func56, rfl, by kernel_rfl, by kernel_rfl, by kernel_rfl, by kernel_rfl⟩ rfl (loopsAt_zip (Λ := []) (cs := []) (by kernel_rfl) (by kernel_rfl) (by kernel_rfl) trivial)
/-! 30 bowline/sorting.Stable -/
abbrev ps30 : List SV := [.d false (.sl tIt)]
abbrev rs30 : Shape := ⟨[(0, .d false (.sl tIt))], []⟩
noncomputable def F30 (F56 : (SV.denL ps56) → Option (rs56).den) : (SV.denL ps30) → Option (rs30).den := runFn tb [(56, mkCall ps56 rs56 F56)] [] Tryd.f30 ps30 rs30
theorem call30 {F56 : (SV.denL ps56) → Option (rs56).den} (h56 : CallOK Tryd.prog 56 (mkCall ps56 rs56 F56)) : CallOK Tryd.prog 30 (mkCall ps30 rs30 (F30 F56)) :=
  runFn_ok mixed tabOK (Δ := [(56, mkCall ps56 rs56 F56)]) ⟨.inl h56, trivial⟩ ⟨Tryd.func30, rfl, by kernel_rfl, by kernel_rfl, by kernel_rfl, by kernel_rfl⟩ rfl (loopsAt_zip (Λ := []) (cs := []) (by kernel_rfl) (by kernel_rfl) (by kernel_rfl) trivial)
/-! 34 bowline/sorting.NewTreap -/
abbrev ps34 : List SV := [.d false tI]
abbrev rs34 : Shape := ⟨[(0, .pt 0 0)], [.box 108 [.d false tR, .d false tI, .mp 1], .map tI false tI]⟩
noncomputable def F34 : (SV.denL ps34) → Option (rs34).den := runFn tb [] [] Tryd.f34 ps34 rs34
theorem call34 : CallOK Tryd.prog 34 (mkCall ps34 rs34 (F34)) :=
  runFn_ok mixed tabOK (Δ := []) trivial ⟨Tryd.func34, rfl, by kernel_rfl, by kernel_rfl, by kernel_rfl, by kernel_rfl⟩ rfl (loopsAt_zip (Λ := []) (cs := []) (by kernel_rfl) (by kernel_rfl) (by kernel_rfl) trivial)
/-! 57 (*bowline/sorting.node).count -/
abbrev ps57 : List SV := [.d false tR]
abbrev rs57 : Shape := ⟨[(0, .d false tI)], []⟩
noncomputable def F57 : (SV.denL ps57) → Option (rs57).den := runFn tb [] [] Tryd.f57 ps57 rs57
theorem call57 : CallOK Tryd.prog 57 (mkCall ps57 rs57 (F57)) :=
  runFn_ok mixed tabOK (Δ := []) trivial ⟨Tryd.func57, rfl, by kernel_rfl, by kernel_rfl, by kernel_rfl, by kernel_rfl⟩ rfl (loopsAt_zip (Λ := []) (cs := []) (by kernel_rfl) (by kernel_rfl) (by kernel_rfl) trivial)
/-! 75 (*bowline/sorting.node).with -/
abbrev ps75 : List SV := [.d false tR, .d false tR, .d false tR]
abbrev rs75 : Shape := ⟨[(0, .d false tR)], []⟩
noncomputable def F75 (F57 : (SV.denL ps57) → Option (rs57).den) : (SV.denL ps75) → Option (rs75).den := runFn tb [(57, mkCall ps57 rs57 F57)] [] Tryd.f75 ps75 rs75
theorem call75 {F57 : (SV.denL ps57) → Option (rs57).den} (h57 : CallOK Tryd.prog 57 (mkCall ps57 rs57 F57)) : CallOK Tryd.prog 75 (mkCall ps75 rs75 (F75 F57)) :=
  runFn_ok mixed tabOK (Δ := [(57, mkCall ps57 rs57 F57)]) ⟨.inl h57, trivial⟩ ⟨Tryd.func75, rfl, by kernel_rfl, by kernel_rfl, by kernel_rfl, by kernel_rfl⟩ rfl (loopsAt_zip (Λ := []) (cs := []) (by kernel_rfl) (by kernel_rfl) (by kernel_rfl) trivial)
/-! 58 (*bowline/sorting.node).split -/
abbrev ps58 : List SV := [.d false tR, .d false tI]
abbrev rs58 : Shape := ⟨[(0, .d false tR), (1, .d false tR)], []⟩
noncomputable def F58 (R58 : (SV.denL ps58) → Option (rs58).den) (F75 : (SV.denL ps75) → Option (rs75).den) : (SV.denL ps58) → Option (rs58).den := runFn tb [(58, mkCall ps58 rs58 R58), (75, mkCall ps75 rs75 F75)] [] Tryd.f58 ps58 rs58
theorem call58 {R58 : (SV.denL ps58) → Option (rs58).den} {F75 : (SV.denL ps75) → Option (rs75).den} (h58 : CallOK Tryd.prog 58 (mkCall ps58 rs58 R58)) (h75 : CallOK Tryd.prog 75 (mkCall ps75 rs75 F75)) : CallOK Tryd.prog 58 (mkCall ps58 rs58 (F58 R58 F75)) :=
  runFn_ok mixed tabOK (Δ := [(58, mkCall ps58 rs58 R58), (75, mkCall ps75 rs75 F75)]) ⟨.inl h58, .inl h75, trivial⟩ ⟨Tryd.func58, rfl, by kernel_rfl, by kernel_rfl, by kernel_rfl, by kernel_rfl⟩ rfl (loopsAt_zip (Λ := []) (cs := []) (by kernel_rfl) (by kernel_rfl) (by kernel_rfl) trivial)
/-! 82 (*bowline/sorting.node).above -/
abbrev ps82 : List SV := [.d false tR, .d false tR]
abbrev rs82 : Shape := ⟨[(0, .d false .bool)], []⟩
noncomputable def F82 : (SV.denL ps82) → Option (rs82).den := runFn tb [] [] Tryd.f82 ps82 rs82
theorem call82 : CallOK Tryd.prog 82 (mkCall ps82 rs82 (F82)) :=
  runFn_ok mixed tabOK (Δ := []) trivial ⟨Tryd.func82, rfl, by kernel_rfl, by kernel_rfl, by kernel_rfl, by kernel_rfl⟩ rfl (loopsAt_zip (Λ := []) (cs := []) (by kernel_rfl) (by kernel_rfl) (by kernel_rfl) trivial)
/-! 76 bowline/sorting.higher -/
abbrev ps76 : List SV := [.d false tR, .d false tR]
abbrev rs76 : Shape := ⟨[(0, .d false .bool)], []⟩
noncomputable def F76 (F82 : (SV.denL ps82) → Option (rs82).den) : (SV.denL ps76) → Option (rs76).den := runFn tb [(82, mkCall ps82 rs82 F82)] [] Tryd.f76 ps76 rs76
theorem call76 {F82 : (SV.denL ps82) → Option (rs82).den} (h82 : CallOK Tryd.prog 82 (mkCall ps82 rs82 F82)) : CallOK Tryd.prog 76 (mkCall ps76 rs76 (F76 F82)) :=
  runFn_ok mixed tabOK (Δ := [(82, mkCall ps82 rs82 F82)]) ⟨.inl h82, trivial⟩ ⟨Tryd.func76, rfl, by kernel_rfl, by kernel_rfl, by kernel_rfl, by kernel_rfl⟩ rfl (loopsAt_zip (Λ := []) (cs := []) (by kernel_rfl) (by kernel_rfl) (by kernel_rfl) trivial)
/-! 59 bowline/sorting.join -/
abbrev ps59 : List SV := [.d false tR, .d false tR]
abbrev rs59 : Shape := ⟨[(0, .d false tR)], []⟩
noncomputable def F59 (R59 : (SV.denL ps59) → Option (rs59).den) (F75 : (SV.denL ps75) → Option (rs75).den) (F76 : (SV.denL ps76) → Option (rs76).den) : (SV.denL ps59) → Option (rs59).den := runFn tb [(59, mkCall ps59 rs59 R59), (75, mkCall ps75 rs75 F75), (76, mkCall ps76 rs76 F76)] [] Tryd.f59 ps59 rs59
theorem call59 {R59 : (SV.denL ps59) → Option (rs59).den} {F75 : (SV.denL ps75) → Option (rs75).den} {F76 : (SV.denL ps76) → Option (rs76).den} (h59 : CallOK Tryd.prog 59 (mkCall ps59 rs59 R59)) (h75 : CallOK Tryd.prog 75 (mkCall ps75 rs75 F75)) (h76 : CallOK Tryd.prog 76 (mkCall ps76 rs76 F76)) : CallOK Tryd.prog 59 (mkCall ps59 rs59 (F59 R59 F75 F76)) :=
  runFn_ok mixed tabOK (Δ := [(59, mkCall ps59 rs59 R59), (75, mkCall ps75 rs75 F75), (76, mkCall ps76 rs76 F76)]) ⟨.inl h59, .inl h75, .inl h76, trivial⟩ ⟨Tryd.func59, rfl, by kernel_rfl, by kernel_rfl, by kernel_rfl, by kernel_rfl⟩ rfl (loopsAt_zip (Λ := []) (cs := []) (by kernel_rfl) (by kernel_rfl) (by kernel_rfl) trivial)
/-! 35 (*bowline/sorting.Treap).Put -/
abbrev psh35t : Shape := ⟨[(0, .pt 0 0), (1, .d false tI), (2, .d false tI)], [.box 108 [.d false tR, .d false tI, .mp 1], .map tI false tI]⟩
abbrev m35t : List Nat := [0]
abbrev rs35t : Shape := ⟨[(0, .pt 0 0), (1, .d false tI), (2, .d false tI), (3, .d false .bool), (4, .d false tI)], [.box 108 [.d false tR, .d false tI, .mp 1], .map tI false tI]⟩
noncomputable def F35t (F28 : (SV.denL ps28) → Option (rs28).den) (F57 : (SV.denL ps57) → Option (rs57).den) (F58 : (SV.denL ps58) → Option (rs58).den) (F59 : (SV.denL ps59) → Option (rs59).den) : (psh35t.den) → Option (rs35t).den := runFnB tb [(28, mkCall ps28 rs28 F28), (57, mkCall ps57 rs57 F57), (58, mkCall ps58 rs58 F58), (59, mkCall ps59 rs59 F59)] [] Tryd.f35 psh35t rs35t 3
theorem call35t {F28 : (SV.denL ps28) → Option (rs28).den} {F57 : (SV.denL ps57) → Option (rs57).den} {F58 : (SV.denL ps58) → Option (rs58).den} {F59 : (SV.denL ps59) → Option (rs59).den} (h28 : CallOK Tryd.prog 28 (mkCall ps28 rs28 F28)) (h57 : CallOK Tryd.prog 57 (mkCall ps57 rs57 F57)) (h58 : CallOK Tryd.prog 58 (mkCall ps58 rs58 F58)) (h59 : CallOK Tryd.prog 59 (mkCall ps59 rs59 F59)) : CallOK Tryd.prog 35 (mkCallB psh35t rs35t m35t 3 (F35t F28 F57 F58 F59)) :=
  runFnB_ok mixed tabOK (Δ := [(28, mkCall ps28 rs28 F28), (57, mkCall ps57 rs57 F57), (58, mkCall ps58 rs58 F58), (59, mkCall ps59 rs59 F59)]) ⟨.inl h28, .inl h57, .inl h58, .inl h59, trivial⟩ ⟨Tryd.func35, rfl, by kernel_rfl, by kernel_rfl, by kernel_rfl, by kernel_rfl, by kernel_rfl, by kernel_rfl, by kernel_rfl, by kernel_rfl, by kernel_rfl⟩ rfl (loopsAt_zip (Λ := []) (cs := []) (by kernel_rfl) (by kernel_rfl) (by kernel_rfl) trivial)
/-! 60 (*bowline/sorting.Treap).or -/
abbrev psh60t : Shape := ⟨[(0, .pt 0 0)], [.box 108 [.d false tR, .d false tI, .mp 1], .map tI false tI]⟩
abbrev m60t : List Nat := [0]
abbrev rs60t : Shape := ⟨[(0, .pt 0 0), (1, .pt 0 0)], [.box 108 [.d false tR, .d false tI, .mp 1], .map tI false tI]⟩
noncomputable def F60t (F34 : (SV.denL ps34) → Option (rs34).den) : (psh60t.den) → Option (rs60t).den := runFnB tb [(34, mkCall ps34 rs34 F34)] [] Tryd.f60 psh60t rs60t 1
theorem call60t {F34 : (SV.denL ps34) → Option (rs34).den} (h34 : CallOK Tryd.prog 34 (mkCall ps34 rs34 F34)) : CallOK Tryd.prog 60 (mkCallB psh60t rs60t m60t 1 (F60t F34)) :=
  runFnB_ok mixed tabOK (Δ := [(34, mkCall ps34 rs34 F34)]) ⟨.inl h34, trivial⟩ ⟨Tryd.func60, rfl, by kernel_rfl, by kernel_rfl, by kernel_rfl, by kernel_rfl, by kernel_rfl, by kernel_rfl, by kernel_rfl, by kernel_rfl, by kernel_rfl⟩ rfl (loopsAt_zip (Λ := []) (cs := []) (by kernel_rfl) (by kernel_rfl) (by kernel_rfl) trivial)
/-! 83 (*strings.Builder).copyCheck -/
abbrev psh83u : Shape := ⟨[(0, .pt 0 0)], [.box 119 [.pt 0 0, .rf 1], .row (.int .u8) 5]⟩
abbrev m83u : List Nat := [0]
abbrev rs83u : Shape := ⟨[(0, .pt 0 0)], [.box 119 [.pt 0 0, .rf 1], .row (.int .u8) 5]⟩
noncomputable def F83u : (psh83u.den) → Option (rs83u).den := runFnB tb [(89, sameO)] [] Tryd.f83 psh83u rs83u 1
theorem call83u : CallOK Tryd.prog 83 (mkCallB psh83u rs83u m83u 1 (F83u)) :=
  runFnB_ok mixed tabOK (Δ := [(89, sameO)]) ⟨.inr ext89, trivial⟩ ⟨Tryd.func83, rfl, by kernel_rfl, by kernel_rfl, by kernel_rfl, by kernel_rfl, by kernel_rfl, by kernel_rfl, by kernel_rfl, by kernel_rfl, by kernel_rfl⟩ rfl (loopsAt_zip (Λ := []) (cs := []) (by kernel_rfl) (by kernel_rfl) (by kernel_rfl) trivial)
/-! 77 (*strings.Builder).WriteByte -/
abbrev psh77u : Shape := ⟨[(0, .pt 0 0), (1, .d false (.int .u8))], [.box 119 [.pt 0 0, .rf 1], .row (.int .u8) 5]⟩
abbrev m77u : List Nat := [0]
abbrev rs77u : Shape := ⟨[(0, .pt 0 0), (1, .d false (.int .u8)), (2, .d false .ic)], [.box 119 [.pt 0 0, .rf 1], .row (.int .u8) 5]⟩
noncomputable def F77u (F83u : (psh83u.den) → Option (rs83u).den) : (psh77u.den) → Option (rs77u).den := runFnB tb [(83, mkCallB psh83u rs83u m83u 1 F83u)] [] Tryd.f77 psh77u rs77u 2
theorem call77u {F83u : (psh83u.den) → Option (rs83u).den} (h83u : CallOK Tryd.prog 83 (mkCallB psh83u rs83u m83u 1 F83u)) : CallOK Tryd.prog 77 (mkCallB psh77u rs77u m77u 2 (F77u F83u)) :=
  runFnB_ok mixed tabOK (Δ := [(83, mkCallB psh83u rs83u m83u 1 F83u)]) ⟨.inl h83u, trivial⟩ ⟨Tryd.func77, rfl, by kernel_rfl, by kernel_rfl, by kernel_rfl, by kernel_rfl, by kernel_rfl, by kernel_rfl, by kernel_rfl, by kernel_rfl, by kernel_rfl⟩ rfl (loopsAt_zip (Λ := []) (cs := []) (by kernel_rfl) (by kernel_rfl) (by kernel_rfl) trivial)
/-! 78 (*strings.Builder).WriteString -/
abbrev psh78u : Shape := ⟨[(0, .pt 0 0), (1, .d false .str)], [.box 119 [.pt 0 0, .rf 1], .row (.int .u8) 5]⟩
abbrev m78u : List Nat := [0]
abbrev rs78u : Shape := ⟨[(0, .pt 0 0), (1, .d false .str), (2, .d false tI), (3, .d false .ic)], [.box 119 [.pt 0 0, .rf 1], .row (.int .u8) 5]⟩
noncomputable def F78u (F83u : (psh83u.den) → Option (rs83u).den) : (psh78u.den) → Option (rs78u).den := runFnB tb [(83, mkCallB psh83u rs83u m83u 1 F83u)] [] Tryd.f78 psh78u rs78u 2
theorem call78u {F83u : (psh83u.den) → Option (rs83u).den} (h83u : CallOK Tryd.prog 83 (mkCallB psh83u rs83u m83u 1 F83u)) : CallOK Tryd.prog 78 (mkCallB psh78u rs78u m78u 2 (F78u F83u)) :=
  runFnB_ok mixed tabOK (Δ := [(83, mkCallB psh83u rs83u m83u 1 F83u)]) ⟨.inl h83u, trivial⟩ ⟨Tryd.func78, rfl, by kernel_rfl, by kernel_rfl, by kernel_rfl, by kernel_rfl, by kernel_rfl, by kernel_rfl, by kernel_rfl, by kernel_rfl, by kernel_rfl⟩ rfl (loopsAt_zip (Λ := []) (cs := []) (by kernel_rfl) (by kernel_rfl) (by kernel_rfl) trivial)
/-! 95 internal/strconv.small -/
abbrev ps95 : List SV := [.d false tI]
abbrev rs95 : Shape := ⟨[(0, .d false .str)], []⟩
noncomputable def F95 : (SV.denL ps95) → Option (rs95).den := runFn tb [] [] Tryd.f95 ps95 rs95
theorem call95 : CallOK Tryd.prog 95 (mkCall ps95 rs95 (F95)) :=
  runFn_ok mixed tabOK (Δ := []) trivial ⟨Tryd.func95, rfl, by kernel_rfl, by kernel_rfl, by kernel_rfl, by kernel_rfl⟩ rfl (loopsAt_zip (Λ := []) (cs := []) (by kernel_rfl) (by kernel_rfl) (by kernel_rfl) trivial)
/-! 93 internal/strconv.FormatInt -/
abbrev ps93 : List SV := [.d false tI, .d false tI]
abbrev rs93 : Shape := ⟨[(0, .d false .str)], []⟩
noncomputable def F93 (F95 : (SV.denL ps95) → Option (rs95).den) : (SV.denL ps93) → Option (rs93).den := runFn tb [(95, mkCall ps95 rs95 F95)] [] Tryd.f93 ps93 rs93
theorem call93 {F95 : (SV.denL ps95) → Option (rs95).den} (h95 : CallOK Tryd.prog 95 (mkCall ps95 rs95 F95)) : CallOK Tryd.prog 93 (mkCall ps93 rs93 (F93 F95)) :=
  runFn_ok mixed tabOK (Δ := [(95, mkCall ps95 rs95 F95)]) ⟨.inl h95, trivial⟩ ⟨Tryd.func93, rfl, by kernel_rfl, by kernel_rfl, by kernel_rfl, by kernel_rfl⟩ rfl (loopsAt_zip (Λ := []) (cs := []) (by kernel_rfl) (by kernel_rfl) (by kernel_rfl) trivial)
/-! 90 internal/strconv.Itoa -/
abbrev ps90 : List SV := [.d false tI]
abbrev rs90 : Shape := ⟨[(0, .d false .str)], []⟩
noncomputable def F90 (F93 : (SV.denL ps93) → Option (rs93).den) : (SV.denL ps90) → Option (rs90).den := runFn tb [(93, mkCall ps93 rs93 F93)] [] Tryd.f90 ps90 rs90
theorem call90 {F93 : (SV.denL ps93) → Option (rs93).den} (h93 : CallOK Tryd.prog 93 (mkCall ps93 rs93 F93)) : CallOK Tryd.prog 90 (mkCall ps90 rs90 (F90 F93)) :=
  runFn_ok mixed tabOK (Δ := [(93, mkCall ps93 rs93 F93)]) ⟨.inl h93, trivial⟩ ⟨Tryd.func90, rfl, by kernel_rfl, by kernel_rfl, by kernel_rfl, by kernel_rfl⟩ rfl (loopsAt_zip (Λ := []) (cs := []) (by kernel_rfl) (by kernel_rfl) (by kernel_rfl) trivial)
/-! 84 strconv.Itoa -/
abbrev ps84 : List SV := [.d false tI]
abbrev rs84 : Shape := ⟨[(0, .d false .str)], []⟩
noncomputable def F84 (F90 : (SV.denL ps90) → Option (rs90).den) : (SV.denL ps84) → Option (rs84).den := runFn tb [(90, mkCall ps90 rs90 F90)] [] Tryd.f84 ps84 rs84
theorem call84 {F90 : (SV.denL ps90) → Option (rs90).den} (h90 : CallOK Tryd.prog 90 (mkCall ps90 rs90 F90)) : CallOK Tryd.prog 84 (mkCall ps84 rs84 (F84 F90)) :=
  runFn_ok mixed tabOK (Δ := [(90, mkCall ps90 rs90 F90)]) ⟨.inl h90, trivial⟩ ⟨Tryd.func84, rfl, by kernel_rfl, by kernel_rfl, by kernel_rfl, by kernel_rfl⟩ rfl (loopsAt_zip (Λ := []) (cs := []) (by kernel_rfl) (by kernel_rfl) (by kernel_rfl) trivial)
/-! 94 unicode/utf8.appendRuneNonASCII -/
abbrev psh94 : Shape := ⟨[(0, .rf 0), (1, .d false (.int .i32))], [.row (.int .u8) 5]⟩
abbrev m94 : List Nat := []
abbrev rs94 : Shape := ⟨[(0, .rf 0)], [.row (.int .u8) 5]⟩
noncomputable def F94 : (psh94.den) → Option (rs94).den := runFnB tb [] [] Tryd.f94 psh94 rs94 0
theorem call94 : CallOK Tryd.prog 94 (mkCallB psh94 rs94 m94 0 (F94)) :=
  runFnB_ok mixed tabOK (Δ := []) trivial ⟨Tryd.func94, rfl, by kernel_rfl, by kernel_rfl, by kernel_rfl, by kernel_rfl, by kernel_rfl, by kernel_rfl, by kernel_rfl, by kernel_rfl, by kernel_rfl⟩ rfl (loopsAt_zip (Λ := []) (cs := []) (by kernel_rfl) (by kernel_rfl) (by kernel_rfl) trivial)
/-! 91 unicode/utf8.AppendRune -/
abbrev psh91 : Shape := ⟨[(0, .rf 0), (1, .d false (.int .i32))], [.row (.int .u8) 5]⟩
abbrev m91 : List Nat := []
abbrev rs91 : Shape := ⟨[(0, .rf 0)], [.row (.int .u8) 5]⟩
noncomputable def F91 (F94 : (psh94.den) → Option (rs94).den) : (psh91.den) → Option (rs91).den := runFnB tb [(94, mkCallB psh94 rs94 m94 0 F94)] [] Tryd.f91 psh91 rs91 0
theorem call91 {F94 : (psh94.den) → Option (rs94).den} (h94 : CallOK Tryd.prog 94 (mkCallB psh94 rs94 m94 0 F94)) : CallOK Tryd.prog 91 (mkCallB psh91 rs91 m91 0 (F91 F94)) :=
  runFnB_ok mixed tabOK (Δ := [(94, mkCallB psh94 rs94 m94 0 F94)]) ⟨.inl h94, trivial⟩ ⟨Tryd.func91, rfl, by kernel_rfl, by kernel_rfl, by kernel_rfl, by kernel_rfl, by kernel_rfl, by kernel_rfl, by kernel_rfl, by kernel_rfl, by kernel_rfl⟩ rfl (loopsAt_zip (Λ := []) (cs := []) (by kernel_rfl) (by kernel_rfl) (by kernel_rfl) trivial)
/-! 85 (*strings.Builder).WriteRune -/
abbrev psh85u : Shape := ⟨[(0, .pt 0 0), (1, .d false (.int .i32))], [.box 119 [.pt 0 0, .rf 1], .row (.int .u8) 5]⟩
abbrev m85u : List Nat := [0]
abbrev rs85u : Shape := ⟨[(0, .pt 0 0), (1, .d false (.int .i32)), (2, .d false tI), (3, .d false .ic)], [.box 119 [.pt 0 0, .rf 1], .row (.int .u8) 5]⟩
noncomputable def F85u (F83u : (psh83u.den) → Option (rs83u).den) (F91 : (psh91.den) → Option (rs91).den) : (psh85u.den) → Option (rs85u).den := runFnB tb [(83, mkCallB psh83u rs83u m83u 1 F83u), (91, mkCallB psh91 rs91 m91 0 F91)] [] Tryd.f85 psh85u rs85u 2
theorem call85u {F83u : (psh83u.den) → Option (rs83u).den} {F91 : (psh91.den) → Option (rs91).den} (h83u : CallOK Tryd.prog 83 (mkCallB psh83u rs83u m83u 1 F83u)) (h91 : CallOK Tryd.prog 91 (mkCallB psh91 rs91 m91 0 F91)) : CallOK Tryd.prog 85 (mkCallB psh85u rs85u m85u 2 (F85u F83u F91)) :=
  runFnB_ok mixed tabOK (Δ := [(83, mkCallB psh83u rs83u m83u 1 F83u), (91, mkCallB psh91 rs91 m91 0 F91)]) ⟨.inl h83u, .inl h91, trivial⟩ ⟨Tryd.func85, rfl, by kernel_rfl, by kernel_rfl, by kernel_rfl, by kernel_rfl, by kernel_rfl, by kernel_rfl, by kernel_rfl, by kernel_rfl, by kernel_rfl⟩ rfl (loopsAt_zip (Λ := []) (cs := []) (by kernel_rfl) (by kernel_rfl) (by kernel_rfl) trivial)
/-! 79 bowline/sorting.number -/
abbrev psh79u : Shape := ⟨[(0, .pt 0 0), (1, .d false tI)], [.box 119 [.pt 0 0, .rf 1], .row (.int .u8) 5]⟩
abbrev m79u : List Nat := [0]
abbrev rs79u : Shape := ⟨[(0, .pt 0 0), (1, .d false tI)], [.box 119 [.pt 0 0, .rf 1], .row (.int .u8) 5]⟩
abbrev sh79u_1 : Shape := ⟨[(0, .pt 0 0), (1, .d false tI), (8, .pt 1 0)], [.box 119 [.pt 0 0, .rf 2], .it, .row (.int .u8) 5]⟩
abbrev w79u_1 : List Way := [(some 0, ⟨[(0, .pt 0 0), (1, .d false tI)], [.box 119 [.pt 0 0, .rf 1], .row (.int .u8) 5]⟩)]
noncomputable def S79u_1 (F85u : (psh85u.den) → Option (rs85u).den) : sh79u_1.den → Option (sh79u_1.den ⊕ denX w79u_1) := stepFn tb [(85, mkCallB psh85u rs85u m85u 2 F85u)] [] (roundOk (upTo 15) (rangeN 0 2)) Tryd.f79 1 sh79u_1 w79u_1
noncomputable def F79u (F84 : (SV.denL ps84) → Option (rs84).den) (g79u_1 : sh79u_1.den → Option (denX w79u_1)) : (psh79u.den) → Option (rs79u).den := runFnB tb [(84, mkCall ps84 rs84 F84)] [(1, lp sh79u_1 w79u_1 g79u_1)] Tryd.f79 psh79u rs79u 2
theorem call79u {F84 : (SV.denL ps84) → Option (rs84).den} {F85u : (psh85u.den) → Option (rs85u).den} {g79u_1 : sh79u_1.den → Option (denX w79u_1)} (h84 : CallOK Tryd.prog 84 (mkCall ps84 rs84 F84)) (h85u : CallOK Tryd.prog 85 (mkCallB psh85u rs85u m85u 2 F85u)) (hg79u_1 : Lim (S79u_1 F85u) g79u_1) : CallOK Tryd.prog 79 (mkCallB psh79u rs79u m79u 2 (F79u F84 g79u_1)) :=
  runFnB_ok mixed tabOK (Δ := [(84, mkCall ps84 rs84 F84)]) ⟨.inl h84, trivial⟩ ⟨Tryd.func79, rfl, by kernel_rfl, by kernel_rfl, by kernel_rfl, by kernel_rfl, by kernel_rfl, by kernel_rfl, by kernel_rfl, by kernel_rfl, by kernel_rfl⟩ rfl (loopsAt_zip (cs := [.loop (loopOf Tryd.f79 1)]) (by kernel_rfl) (by kernel_rfl) (by kernel_rfl) ⟨stepLim_ok mixed tabOK (Δ := [(85, mkCallB psh85u rs85u m85u 2 F85u)]) ⟨.inl h85u, trivial⟩ hg79u_1 (loopsAt_zip (Λ := []) (cs := []) (by kernel_rfl) (by kernel_rfl) (by kernel_rfl) trivial), trivial⟩)
/-! 61 (*bowline/sorting.node).write -/
abbrev psh61u : Shape := ⟨[(0, .d false tR), (1, .pt 0 0)], [.box 119 [.pt 0 0, .rf 1], .row (.int .u8) 5]⟩
abbrev m61u : List Nat := [0]
abbrev rs61u : Shape := ⟨[(0, .d false tR), (1, .pt 0 0)], [.box 119 [.pt 0 0, .rf 1], .row (.int .u8) 5]⟩
noncomputable def F61u (R61u : (psh61u.den) → Option (rs61u).den) (F77u : (psh77u.den) → Option (rs77u).den) (F78u : (psh78u.den) → Option (rs78u).den) (F79u : (psh79u.den) → Option (rs79u).den) : (psh61u.den) → Option (rs61u).den := runFnB tb [(61, mkCallB psh61u rs61u m61u 2 R61u), (77, mkCallB psh77u rs77u m77u 2 F77u), (78, mkCallB psh78u rs78u m78u 2 F78u), (79, mkCallB psh79u rs79u m79u 2 F79u)] [] Tryd.f61 psh61u rs61u 2
theorem call61u {R61u : (psh61u.den) → Option (rs61u).den} {F77u : (psh77u.den) → Option (rs77u).den} {F78u : (psh78u.den) → Option (rs78u).den} {F79u : (psh79u.den) → Option (rs79u).den} (h61u : CallOK Tryd.prog 61 (mkCallB psh61u rs61u m61u 2 R61u)) (h77u : CallOK Tryd.prog 77 (mkCallB psh77u rs77u m77u 2 F77u)) (h78u : CallOK Tryd.prog 78 (mkCallB psh78u rs78u m78u 2 F78u)) (h79u : CallOK Tryd.prog 79 (mkCallB psh79u rs79u m79u 2 F79u)) : CallOK Tryd.prog 61 (mkCallB psh61u rs61u m61u 2 (F61u R61u F77u F78u F79u)) :=
  runFnB_ok mixed tabOK (Δ := [(61, mkCallB psh61u rs61u m61u 2 R61u), (77, mkCallB psh77u rs77u m77u 2 F77u), (78, mkCallB psh78u rs78u m78u 2 F78u), (79, mkCallB psh79u rs79u m79u 2 F79u)]) ⟨.inl h61u, .inl h77u, .inl h78u, .inl h79u, trivial⟩ ⟨Tryd.func61, rfl, by kernel_rfl, by kernel_rfl, by kernel_rfl, by kernel_rfl, by kernel_rfl, by kernel_rfl, by kernel_rfl, by kernel_rfl, by kernel_rfl⟩ rfl (loopsAt_zip (Λ := []) (cs := []) (by kernel_rfl) (by kernel_rfl) (by kernel_rfl) trivial)
/-! 83 (*strings.Builder).copyCheck -/
abbrev psh83f : Shape := ⟨[(0, .pt 0 0)], [.box 119 [.np, .nl]]⟩
abbrev m83f : List Nat := [0]
abbrev rs83f : Shape := ⟨[(0, .pt 0 0)], [.box 119 [.pt 0 0, .nl]]⟩
noncomputable def F83f : (psh83f.den) → Option (rs83f).den := runFnB tb [(89, sameO)] [] Tryd.f83 psh83f rs83f 1
theorem call83f : CallOK Tryd.prog 83 (mkCallB psh83f rs83f m83f 1 (F83f)) :=
  runFnB_ok mixed tabOK (Δ := [(89, sameO)]) ⟨.inr ext89, trivial⟩ ⟨Tryd.func83, rfl, by kernel_rfl, by kernel_rfl, by kernel_rfl, by kernel_rfl, by kernel_rfl, by kernel_rfl, by kernel_rfl, by kernel_rfl, by kernel_rfl⟩ rfl (loopsAt_zip (Λ := []) (cs := []) (by kernel_rfl) (by kernel_rfl) (by kernel_rfl) trivial)
/-! 77 (*strings.Builder).WriteByte -/
abbrev psh77f : Shape := ⟨[(0, .pt 0 0), (1, .d false (.int .u8))], [.box 119 [.np, .nl]]⟩
abbrev m77f : List Nat := [0]
abbrev rs77f : Shape := ⟨[(0, .pt 0 0), (1, .d false (.int .u8)), (2, .d false .ic)], [.box 119 [.pt 0 0, .rf 1], .row (.int .u8) 5]⟩
noncomputable def F77f (F83f : (psh83f.den) → Option (rs83f).den) : (psh77f.den) → Option (rs77f).den := runFnB tb [(83, mkCallB psh83f rs83f m83f 1 F83f)] [] Tryd.f77 psh77f rs77f 2
theorem call77f {F83f : (psh83f.den) → Option (rs83f).den} (h83f : CallOK Tryd.prog 83 (mkCallB psh83f rs83f m83f 1 F83f)) : CallOK Tryd.prog 77 (mkCallB psh77f rs77f m77f 2 (F77f F83f)) :=
  runFnB_ok mixed tabOK (Δ := [(83, mkCallB psh83f rs83f m83f 1 F83f)]) ⟨.inl h83f, trivial⟩ ⟨Tryd.func77, rfl, by kernel_rfl, by kernel_rfl, by kernel_rfl, by kernel_rfl, by kernel_rfl, by kernel_rfl, by kernel_rfl, by kernel_rfl, by kernel_rfl⟩ rfl (loopsAt_zip (Λ := []) (cs := []) (by kernel_rfl) (by kernel_rfl) (by kernel_rfl) trivial)
/-! 78 (*strings.Builder).WriteString -/
abbrev psh78f : Shape := ⟨[(0, .pt 0 0), (1, .d false .str)], [.box 119 [.np, .nl]]⟩
abbrev m78f : List Nat := [0]
abbrev rs78f : Shape := ⟨[(0, .pt 0 0), (1, .d false .str), (2, .d false tI), (3, .d false .ic)], [.box 119 [.pt 0 0, .rf 1], .row (.int .u8) 5]⟩
noncomputable def F78f (F83f : (psh83f.den) → Option (rs83f).den) : (psh78f.den) → Option (rs78f).den := runFnB tb [(83, mkCallB psh83f rs83f m83f 1 F83f)] [] Tryd.f78 psh78f rs78f 2
theorem call78f {F83f : (psh83f.den) → Option (rs83f).den} (h83f : CallOK Tryd.prog 83 (mkCallB psh83f rs83f m83f 1 F83f)) : CallOK Tryd.prog 78 (mkCallB psh78f rs78f m78f 2 (F78f F83f)) :=
  runFnB_ok mixed tabOK (Δ := [(83, mkCallB psh83f rs83f m83f 1 F83f)]) ⟨.inl h83f, trivial⟩ ⟨Tryd.func78, rfl, by kernel_rfl, by kernel_rfl, by kernel_rfl, by kernel_rfl, by kernel_rfl, by kernel_rfl, by kernel_rfl, by kernel_rfl, by kernel_rfl⟩ rfl (loopsAt_zip (Λ := []) (cs := []) (by kernel_rfl) (by kernel_rfl) (by kernel_rfl) trivial)
/-! 61 (*bowline/sorting.node).write -/
abbrev psh61f : Shape := ⟨[(0, .d false tR), (1, .pt 0 0)], [.box 119 [.np, .nl]]⟩
abbrev m61f : List Nat := [0]
abbrev rs61f : Shape := ⟨[(0, .d false tR), (1, .pt 0 0)], [.box 119 [.pt 0 0, .rf 1], .row (.int .u8) 5]⟩
noncomputable def F61f (F61u : (psh61u.den) → Option (rs61u).den) (F77f : (psh77f.den) → Option (rs77f).den) (F77u : (psh77u.den) → Option (rs77u).den) (F78f : (psh78f.den) → Option (rs78f).den) (F78u : (psh78u.den) → Option (rs78u).den) (F79u : (psh79u.den) → Option (rs79u).den) : (psh61f.den) → Option (rs61f).den := runFnB tb [(61, mkCallB psh61u rs61u m61u 2 F61u), (77, orC (fitB psh77f) (mkCallB psh77f rs77f m77f 2 F77f) (mkCallB psh77u rs77u m77u 2 F77u)), (78, orC (fitB psh78f) (mkCallB psh78f rs78f m78f 2 F78f) (mkCallB psh78u rs78u m78u 2 F78u)), (79, mkCallB psh79u rs79u m79u 2 F79u)] [] Tryd.f61 psh61f rs61f 2
theorem call61f {F61u : (psh61u.den) → Option (rs61u).den} {F77f : (psh77f.den) → Option (rs77f).den} {F77u : (psh77u.den) → Option (rs77u).den} {F78f : (psh78f.den) → Option (rs78f).den} {F78u : (psh78u.den) → Option (rs78u).den} {F79u : (psh79u.den) → Option (rs79u).den} (h61u : CallOK Tryd.prog 61 (mkCallB psh61u rs61u m61u 2 F61u)) (h77f : CallOK Tryd.prog 77 (mkCallB psh77f rs77f m77f 2 F77f)) (h77u : CallOK Tryd.prog 77 (mkCallB psh77u rs77u m77u 2 F77u)) (h78f : CallOK Tryd.prog 78 (mkCallB psh78f rs78f m78f 2 F78f)) (h78u : CallOK Tryd.prog 78 (mkCallB psh78u rs78u m78u 2 F78u)) (h79u : CallOK Tryd.prog 79 (mkCallB psh79u rs79u m79u 2 F79u)) : CallOK Tryd.prog 61 (mkCallB psh61f rs61f m61f 2 (F61f F61u F77f F77u F78f F78u F79u)) :=
  runFnB_ok mixed tabOK (Δ := [(61, mkCallB psh61u rs61u m61u 2 F61u), (77, orC (fitB psh77f) (mkCallB psh77f rs77f m77f 2 F77f) (mkCallB psh77u rs77u m77u 2 F77u)), (78, orC (fitB psh78f) (mkCallB psh78f rs78f m78f 2 F78f) (mkCallB psh78u rs78u m78u 2 F78u)), (79, mkCallB psh79u rs79u m79u 2 F79u)]) ⟨.inl h61u, .inl (orC_ok h77f h77u), .inl (orC_ok h78f h78u), .inl h79u, trivial⟩ ⟨Tryd.func61, rfl, by kernel_rfl, by kernel_rfl, by kernel_rfl, by kernel_rfl, by kernel_rfl, by kernel_rfl, by kernel_rfl, by kernel_rfl, by kernel_rfl⟩ rfl (loopsAt_zip (Λ := []) (cs := []) (by kernel_rfl) (by kernel_rfl) (by kernel_rfl) trivial)
/-! 62 (*strings.Builder).String -/
abbrev psh62u : Shape := ⟨[(0, .pt 0 0)], [.box 119 [.pt 0 0, .rf 1], .row (.int .u8) 5]⟩
abbrev m62u : List Nat := []
abbrev rs62u : Shape := ⟨[(0, .pt 0 0), (1, .d false .str)], [.box 119 [.pt 0 0, .d false (.sl (.int .u8))]]⟩
noncomputable def F62u : (psh62u.den) → Option (rs62u).den := runFnB tb [] [] Tryd.f62 psh62u rs62u 1
theorem call62u : CallOK Tryd.prog 62 (mkCallB psh62u rs62u m62u 1 (F62u)) :=
  runFnB_ok mixed tabOK (Δ := []) trivial ⟨Tryd.func62, rfl, by kernel_rfl, by kernel_rfl, by kernel_rfl, by kernel_rfl, by kernel_rfl, by kernel_rfl, by kernel_rfl, by kernel_rfl, by kernel_rfl⟩ rfl (loopsAt_zip (Λ := []) (cs := []) (by kernel_rfl) (by kernel_rfl) (by kernel_rfl) trivial)
/-! 36 (*bowline/sorting.Treap).Shape -/
abbrev psh36t : Shape := ⟨[(0, .pt 0 0)], [.box 108 [.d false tR, .d false tI, .mp 1], .map tI false tI]⟩
abbrev m36t : List Nat := [0]
abbrev rs36t : Shape := ⟨[(0, .pt 0 0), (1, .d false .str)], [.box 108 [.d false tR, .d false tI, .mp 1], .map tI false tI]⟩
noncomputable def F36t (F60t : (psh60t.den) → Option (rs60t).den) (F61f : (psh61f.den) → Option (rs61f).den) (F62u : (psh62u.den) → Option (rs62u).den) : (psh36t.den) → Option (rs36t).den := runFnB tb [(60, mkCallB psh60t rs60t m60t 1 F60t), (61, mkCallB psh61f rs61f m61f 2 F61f), (62, mkCallB psh62u rs62u m62u 1 F62u)] [] Tryd.f36 psh36t rs36t 1
theorem call36t {F60t : (psh60t.den) → Option (rs60t).den} {F61f : (psh61f.den) → Option (rs61f).den} {F62u : (psh62u.den) → Option (rs62u).den} (h60t : CallOK Tryd.prog 60 (mkCallB psh60t rs60t m60t 1 F60t)) (h61f : CallOK Tryd.prog 61 (mkCallB psh61f rs61f m61f 2 F61f)) (h62u : CallOK Tryd.prog 62 (mkCallB psh62u rs62u m62u 1 F62u)) : CallOK Tryd.prog 36 (mkCallB psh36t rs36t m36t 1 (F36t F60t F61f F62u)) :=
  runFnB_ok mixed tabOK (Δ := [(60, mkCallB psh60t rs60t m60t 1 F60t), (61, mkCallB psh61f rs61f m61f 2 F61f), (62, mkCallB psh62u rs62u m62u 1 F62u)]) ⟨.inl h60t, .inl h61f, .inl h62u, trivial⟩ ⟨Tryd.func36, rfl, by kernel_rfl, by kernel_rfl, by kernel_rfl, by kernel_rfl, by kernel_rfl, by kernel_rfl, by kernel_rfl, by kernel_rfl, by kernel_rfl⟩ rfl (loopsAt_zip (Λ := []) (cs := []) (by kernel_rfl) (by kernel_rfl) (by kernel_rfl) trivial)
/-! 48 bowline/sorting.first -/
abbrev ps48 : List SV := [.d false (.sl tI)]
abbrev rs48 : Shape := ⟨[(0, .d false tI)], []⟩
abbrev sh48_2 : Shape := ⟨[(5, .d false (.sl tI)), (6, .d false tI), (7, .d false tI)], []⟩
abbrev w48_2 : List Way := [(none, ⟨[(2, .d false tI)], []⟩), (some 0, ⟨[], []⟩)]
noncomputable def S48_2 : sh48_2.den → Option (sh48_2.den ⊕ denX w48_2) := stepFn tb [] [] (upTo 15) Tryd.f48 2 sh48_2 w48_2
noncomputable def F48 (g48_2 : sh48_2.den → Option (denX w48_2)) : (SV.denL ps48) → Option (rs48).den := runFn tb [] [(2, lp sh48_2 w48_2 g48_2)] Tryd.f48 ps48 rs48
theorem call48 {g48_2 : sh48_2.den → Option (denX w48_2)} (hg48_2 : Lim (S48_2) g48_2) : CallOK Tryd.prog 48 (mkCall ps48 rs48 (F48 g48_2)) :=
  runFn_ok mixed tabOK (Δ := []) trivial ⟨Tryd.func48, rfl, by kernel_rfl, by kernel_rfl, by kernel_rfl, by kernel_rfl⟩ rfl (loopsAt_zip (cs := [.loop (loopOf Tryd.f48 2)]) (by kernel_rfl) (by kernel_rfl) (by kernel_rfl) ⟨stepLim_ok mixed tabOK (Δ := []) trivial hg48_2 (loopsAt_zip (Λ := []) (cs := []) (by kernel_rfl) (by kernel_rfl) (by kernel_rfl) trivial), trivial⟩)
/-! 49 bowline/sorting.when -/
abbrev ps49 : List SV := [.d false .bool, .d false tI]
abbrev rs49 : Shape := ⟨[(0, .d false tI)], []⟩
noncomputable def F49 : (SV.denL ps49) → Option (rs49).den := runFn tb [] [] Tryd.f49 ps49 rs49
theorem call49 : CallOK Tryd.prog 49 (mkCall ps49 rs49 (F49)) :=
  runFn_ok mixed tabOK (Δ := []) trivial ⟨Tryd.func49, rfl, by kernel_rfl, by kernel_rfl, by kernel_rfl, by kernel_rfl⟩ rfl (loopsAt_zip (Λ := []) (cs := []) (by kernel_rfl) (by kernel_rfl) (by kernel_rfl) trivial)
/-! 13 (*bowline/sorting.Queue).Push -/
abbrev psh13q : Shape := ⟨[(0, .pt 0 0), (1, .d true tIt)], [.box 90 [.rf 1, .d false tI], .row tEn 96]⟩
abbrev m13q : List Nat := [0]
abbrev rs13q : Shape := ⟨[(0, .pt 0 0), (1, .d true tIt), (2, .d false tI)], [.box 90 [.rf 1, .d false tI], .row tEn 96]⟩
abbrev sh13q_7 : Shape := ⟨[(0, .pt 0 0), (1, .d true tIt), (6, .d false tI)], [.box 90 [.rf 1, .d false tI], .row tEn 96]⟩
abbrev w13q_7 : List Way := [(some 0, ⟨[(0, .pt 0 0), (1, .d true tIt)], [.box 90 [.rf 1, .d false tI], .row tEn 96]⟩)]
noncomputable def S13q_7 (F50 : (SV.denL ps50) → Option (rs50).den) : sh13q_7.den → Option (sh13q_7.den ⊕ denX w13q_7) := stepFn tb [(50, mkCall ps50 rs50 F50)] [] (roundOk (upTo 99) (rangeN 0 2)) Tryd.f13 7 sh13q_7 w13q_7
noncomputable def F13q (F19q : (psh19q.den) → Option (rs19q).den) (F48 : (SV.denL ps48) → Option (rs48).den) (F49 : (SV.denL ps49) → Option (rs49).den) (g13q_7 : sh13q_7.den → Option (denX w13q_7)) : (psh13q.den) → Option (rs13q).den := runFnB tb [(19, mkCallB psh19q rs19q m19q 1 F19q), (48, mkCall ps48 rs48 F48), (49, mkCall ps49 rs49 F49)] [(7, lp sh13q_7 w13q_7 g13q_7)] Tryd.f13 psh13q rs13q 2
theorem call13q {F19q : (psh19q.den) → Option (rs19q).den} {F48 : (SV.denL ps48) → Option (rs48).den} {F49 : (SV.denL ps49) → Option (rs49).den} {F50 : (SV.denL ps50) → Option (rs50).den} {g13q_7 : sh13q_7.den → Option (denX w13q_7)} (h19q : CallOK Tryd.prog 19 (mkCallB psh19q rs19q m19q 1 F19q)) (h48 : CallOK Tryd.prog 48 (mkCall ps48 rs48 F48)) (h49 : CallOK Tryd.prog 49 (mkCall ps49 rs49 F49)) (h50 : CallOK Tryd.prog 50 (mkCall ps50 rs50 F50)) (hg13q_7 : Lim (S13q_7 F50) g13q_7) : CallOK Tryd.prog 13 (mkCallB psh13q rs13q m13q 2 (F13q F19q F48 F49 g13q_7)) :=
  runFnB_ok mixed tabOK (Δ := [(19, mkCallB psh19q rs19q m19q 1 F19q), (48, mkCall ps48 rs48 F48), (49, mkCall ps49 rs49 F49)]) ⟨.inl h19q, .inl h48, .inl h49, trivial⟩ ⟨Tryd.func13, rfl, by kernel_rfl, by kernel_rfl, by kernel_rfl, by kernel_rfl, by kernel_rfl, by kernel_rfl, by kernel_rfl, by kernel_rfl, by kernel_rfl⟩ rfl (loopsAt_zip (cs := [.loop (loopOf Tryd.f13 7)]) (by kernel_rfl) (by kernel_rfl) (by kernel_rfl) ⟨stepLim_ok mixed tabOK (Δ := [(50, mkCall ps50 rs50 F50)]) ⟨.inl h50, trivial⟩ hg13q_7 (loopsAt_zip (Λ := []) (cs := []) (by kernel_rfl) (by kernel_rfl) (by kernel_rfl) trivial), trivial⟩)
/-! 10 bowline/bowlinelaw36.awake -/
abbrev ps10 : List SV := []
abbrev rs10 : Shape := ⟨[(0, .d false .bool)], []⟩
abbrev sh10_6 : Shape := ⟨[(2, .pt 0 0), (36, .d false (.sl tIt)), (37, .d false tI), (38, .d false tI)], [.box 90 [.rf 1, .d false tI], .row tEn 96]⟩
abbrev w10_6 : List Way := [(none, ⟨[(0, .d false .bool)], []⟩), (some 0, ⟨[(2, .pt 0 0)], [.box 90 [.rf 1, .d false tI], .row tEn 96]⟩)]
noncomputable def S10_6 (F13q : (psh13q.den) → Option (rs13q).den) : sh10_6.den → Option (sh10_6.den ⊕ denX w10_6) := stepFn tb [(13, mkCallB psh13q rs13q m13q 2 F13q)] [] (upTo 97) Tryd.f10 6 sh10_6 w10_6
noncomputable def F10 (F11 : (SV.denL ps11) → Option (rs11).den) (F15q : (psh15q.den) → Option (rs15q).den) (F22 : (SV.denL ps22) → Option (rs22).den) (F25 : (SV.denL ps25) → Option (rs25).den) (F28 : (SV.denL ps28) → Option (rs28).den) (F30 : (SV.denL ps30) → Option (rs30).den) (F34 : (SV.denL ps34) → Option (rs34).den) (F35t : (psh35t.den) → Option (rs35t).den) (F36t : (psh36t.den) → Option (rs36t).den) (g10_6 : sh10_6.den → Option (denX w10_6)) : (SV.denL ps10) → Option (rs10).den := runFn tb [(11, mkCall ps11 rs11 F11), (15, mkCallB psh15q rs15q m15q 1 F15q), (22, mkCall ps22 rs22 F22), (25, mkCall ps25 rs25 F25), (28, mkCall ps28 rs28 F28), (30, mkCall ps30 rs30 F30), (34, mkCall ps34 rs34 F34), (35, mkCallB psh35t rs35t m35t 3 F35t), (36, mkCallB psh36t rs36t m36t 1 F36t)] [(6, lp sh10_6 w10_6 g10_6)] Tryd.f10 ps10 rs10
theorem call10 {F11 : (SV.denL ps11) → Option (rs11).den} {F13q : (psh13q.den) → Option (rs13q).den} {F15q : (psh15q.den) → Option (rs15q).den} {F22 : (SV.denL ps22) → Option (rs22).den} {F25 : (SV.denL ps25) → Option (rs25).den} {F28 : (SV.denL ps28) → Option (rs28).den} {F30 : (SV.denL ps30) → Option (rs30).den} {F34 : (SV.denL ps34) → Option (rs34).den} {F35t : (psh35t.den) → Option (rs35t).den} {F36t : (psh36t.den) → Option (rs36t).den} {g10_6 : sh10_6.den → Option (denX w10_6)} (h11 : CallOK Tryd.prog 11 (mkCall ps11 rs11 F11)) (h13q : CallOK Tryd.prog 13 (mkCallB psh13q rs13q m13q 2 F13q)) (h15q : CallOK Tryd.prog 15 (mkCallB psh15q rs15q m15q 1 F15q)) (h22 : CallOK Tryd.prog 22 (mkCall ps22 rs22 F22)) (h25 : CallOK Tryd.prog 25 (mkCall ps25 rs25 F25)) (h28 : CallOK Tryd.prog 28 (mkCall ps28 rs28 F28)) (h30 : CallOK Tryd.prog 30 (mkCall ps30 rs30 F30)) (h34 : CallOK Tryd.prog 34 (mkCall ps34 rs34 F34)) (h35t : CallOK Tryd.prog 35 (mkCallB psh35t rs35t m35t 3 F35t)) (h36t : CallOK Tryd.prog 36 (mkCallB psh36t rs36t m36t 1 F36t)) (hg10_6 : Lim (S10_6 F13q) g10_6) : CallOK Tryd.prog 10 (mkCall ps10 rs10 (F10 F11 F15q F22 F25 F28 F30 F34 F35t F36t g10_6)) :=
  runFn_ok mixed tabOK (Δ := [(11, mkCall ps11 rs11 F11), (15, mkCallB psh15q rs15q m15q 1 F15q), (22, mkCall ps22 rs22 F22), (25, mkCall ps25 rs25 F25), (28, mkCall ps28 rs28 F28), (30, mkCall ps30 rs30 F30), (34, mkCall ps34 rs34 F34), (35, mkCallB psh35t rs35t m35t 3 F35t), (36, mkCallB psh36t rs36t m36t 1 F36t)]) ⟨.inl h11, .inl h15q, .inl h22, .inl h25, .inl h28, .inl h30, .inl h34, .inl h35t, .inl h36t, trivial⟩ ⟨Tryd.func10, rfl, by kernel_rfl, by kernel_rfl, by kernel_rfl, by kernel_rfl⟩ rfl (loopsAt_zip (cs := [.loop (loopOf Tryd.f10 6)]) (by kernel_rfl) (by kernel_rfl) (by kernel_rfl) ⟨stepLim_ok mixed tabOK (Δ := [(13, mkCallB psh13q rs13q m13q 2 F13q)]) ⟨.inl h13q, trivial⟩ hg10_6 (loopsAt_zip (Λ := []) (cs := []) (by kernel_rfl) (by kernel_rfl) (by kernel_rfl) trivial), trivial⟩)
/-! 12 bowline/bowlineref36.NewQueue -/
abbrev ps12 : List SV := []
abbrev rs12 : Shape := ⟨[(0, .pt 0 0)], [.box 92 [.d false (.sl tIt)]]⟩
noncomputable def F12 : (SV.denL ps12) → Option (rs12).den := runFn tb [] [] Tryd.f12 ps12 rs12
theorem call12 : CallOK Tryd.prog 12 (mkCall ps12 rs12 (F12)) :=
  runFn_ok mixed tabOK (Δ := []) trivial ⟨Tryd.func12, rfl, by kernel_rfl, by kernel_rfl, by kernel_rfl, by kernel_rfl⟩ rfl (loopsAt_zip (Λ := []) (cs := []) (by kernel_rfl) (by kernel_rfl) (by kernel_rfl) trivial)
/-! 19 (*bowline/sorting.Queue).Len -/
abbrev psh19n : Shape := ⟨[(0, .np)], []⟩
abbrev m19n : List Nat := []
abbrev rs19n : Shape := ⟨[(0, .np), (1, .d false tI)], []⟩
noncomputable def F19n : (psh19n.den) → Option (rs19n).den := runFnB tb [] [] Tryd.f19 psh19n rs19n 1
theorem call19n : CallOK Tryd.prog 19 (mkCallB psh19n rs19n m19n 1 (F19n)) :=
  runFnB_ok mixed tabOK (Δ := []) trivial ⟨Tryd.func19, rfl, by kernel_rfl, by kernel_rfl, by kernel_rfl, by kernel_rfl, by kernel_rfl, by kernel_rfl, by kernel_rfl, by kernel_rfl, by kernel_rfl⟩ rfl (loopsAt_zip (Λ := []) (cs := []) (by kernel_rfl) (by kernel_rfl) (by kernel_rfl) trivial)
/-! 13 (*bowline/sorting.Queue).Push -/
abbrev psh13n : Shape := ⟨[(0, .np), (1, .d true tIt)], []⟩
abbrev m13n : List Nat := []
abbrev rs13n : Shape := ⟨[(0, .np), (1, .d true tIt), (2, .d false tI)], []⟩
noncomputable def F13n (F19n : (psh19n.den) → Option (rs19n).den) (F48 : (SV.denL ps48) → Option (rs48).den) (F49 : (SV.denL ps49) → Option (rs49).den) : (psh13n.den) → Option (rs13n).den := runFnB tb [(19, mkCallB psh19n rs19n m19n 1 F19n), (48, mkCall ps48 rs48 F48), (49, mkCall ps49 rs49 F49)] [(7, noL)] Tryd.f13 psh13n rs13n 2
theorem call13n {F19n : (psh19n.den) → Option (rs19n).den} {F48 : (SV.denL ps48) → Option (rs48).den} {F49 : (SV.denL ps49) → Option (rs49).den} (h19n : CallOK Tryd.prog 19 (mkCallB psh19n rs19n m19n 1 F19n)) (h48 : CallOK Tryd.prog 48 (mkCall ps48 rs48 F48)) (h49 : CallOK Tryd.prog 49 (mkCall ps49 rs49 F49)) : CallOK Tryd.prog 13 (mkCallB psh13n rs13n m13n 2 (F13n F19n F48 F49)) :=
  runFnB_ok mixed tabOK (Δ := [(19, mkCallB psh19n rs19n m19n 1 F19n), (48, mkCall ps48 rs48 F48), (49, mkCall ps49 rs49 F49)]) ⟨.inl h19n, .inl h48, .inl h49, trivial⟩ ⟨Tryd.func13, rfl, by kernel_rfl, by kernel_rfl, by kernel_rfl, by kernel_rfl, by kernel_rfl, by kernel_rfl, by kernel_rfl, by kernel_rfl, by kernel_rfl⟩ rfl (loopsAt_zip (cs := [.loop (loopOf Tryd.f13 7)]) (by kernel_rfl) (by kernel_rfl) (by kernel_rfl) ⟨noL_ok, trivial⟩)
/-! 24 bowline/bowlineref36.Stable -/
abbrev ps24 : List SV := [.d false (.sl tIt)]
abbrev rs24 : Shape := ⟨[(0, .d false (.sl tIt))], []⟩
abbrev sh24_6 : Shape := ⟨[(0, .d false (.sl tIt)), (3, .rf 0), (4, .d false tI), (5, .d false tI)], [.row tIt 35]⟩
abbrev w24_6 : List Way := [(some 2, sh24_6)]
abbrev sh24_3 : Shape := ⟨[(0, .d false (.sl tIt)), (3, .rf 0), (4, .d false tI)], [.row tIt 35]⟩
abbrev w24_3 : List Way := [(some 0, ⟨[(3, .rf 0)], [.row tIt 35]⟩)]
noncomputable def S24_6 : sh24_6.den → Option (sh24_6.den ⊕ denX w24_6) := stepFn tb [] [] (upTo 52) Tryd.f24 6 sh24_6 w24_6
noncomputable def S24_3 (g24_6 : sh24_6.den → Option (denX w24_6)) : sh24_3.den → Option (sh24_3.den ⊕ denX w24_3) := stepFn tb [] [(6, lp sh24_6 w24_6 g24_6)] (upTo 52) Tryd.f24 3 sh24_3 w24_3
noncomputable def F24 (g24_3 : sh24_3.den → Option (denX w24_3)) : (SV.denL ps24) → Option (rs24).den := runFn tb [] [(3, lp sh24_3 w24_3 g24_3)] Tryd.f24 ps24 rs24
theorem call24 {g24_6 : sh24_6.den → Option (denX w24_6)} {g24_3 : sh24_3.den → Option (denX w24_3)} (hg24_6 : Lim (S24_6) g24_6) (hg24_3 : Lim (S24_3 g24_6) g24_3) : CallOK Tryd.prog 24 (mkCall ps24 rs24 (F24 g24_3)) :=
  runFn_ok mixed tabOK (Δ := []) trivial ⟨Tryd.func24, rfl, by kernel_rfl, by kernel_rfl, by kernel_rfl, by kernel_rfl⟩ rfl (loopsAt_zip (cs := [.loop (loopOf Tryd.f24 3)]) (by kernel_rfl) (by kernel_rfl) (by kernel_rfl) ⟨stepLim_ok mixed tabOK (Δ := []) trivial hg24_3 (loopsAt_zip (cs := [.loop (loopOf Tryd.f24 6)]) (by kernel_rfl) (by kernel_rfl) (by kernel_rfl) ⟨stepLim_ok mixed tabOK (Δ := []) trivial hg24_6 (loopsAt_zip (Λ := []) (cs := []) (by kernel_rfl) (by kernel_rfl) (by kernel_rfl) trivial), trivial⟩), trivial⟩)
/-! 14 (*bowline/bowlineref36.Queue).Push -/
abbrev psh14q : Shape := ⟨[(0, .pt 0 0), (1, .d true tIt)], [.box 92 [.d false (.sl tIt)]]⟩
abbrev m14q : List Nat := [0]
abbrev rs14q : Shape := ⟨[(0, .pt 0 0), (1, .d true tIt), (2, .d false tI)], [.box 92 [.d false (.sl tIt)]]⟩
noncomputable def F14q (F24 : (SV.denL ps24) → Option (rs24).den) : (psh14q.den) → Option (rs14q).den := runFnB tb [(24, mkCall ps24 rs24 F24)] [] Tryd.f14 psh14q rs14q 2
theorem call14q {F24 : (SV.denL ps24) → Option (rs24).den} (h24 : CallOK Tryd.prog 24 (mkCall ps24 rs24 F24)) : CallOK Tryd.prog 14 (mkCallB psh14q rs14q m14q 2 (F14q F24)) :=
  runFnB_ok mixed tabOK (Δ := [(24, mkCall ps24 rs24 F24)]) ⟨.inl h24, trivial⟩ ⟨Tryd.func14, rfl, by kernel_rfl, by kernel_rfl, by kernel_rfl, by kernel_rfl, by kernel_rfl, by kernel_rfl, by kernel_rfl, by kernel_rfl, by kernel_rfl⟩ rfl (loopsAt_zip (Λ := []) (cs := []) (by kernel_rfl) (by kernel_rfl) (by kernel_rfl) trivial)
/-! 14 (*bowline/bowlineref36.Queue).Push -/
abbrev psh14n : Shape := ⟨[(0, .np), (1, .d true tIt)], []⟩
abbrev m14n : List Nat := []
abbrev rs14n : Shape := ⟨[(0, .np), (1, .d true tIt), (2, .d false tI)], []⟩
noncomputable def F14n (F24 : (SV.denL ps24) → Option (rs24).den) : (psh14n.den) → Option (rs14n).den := runFnB tb [(24, mkCall ps24 rs24 F24)] [] Tryd.f14 psh14n rs14n 2
theorem call14n {F24 : (SV.denL ps24) → Option (rs24).den} (h24 : CallOK Tryd.prog 24 (mkCall ps24 rs24 F24)) : CallOK Tryd.prog 14 (mkCallB psh14n rs14n m14n 2 (F14n F24)) :=
  runFnB_ok mixed tabOK (Δ := [(24, mkCall ps24 rs24 F24)]) ⟨.inl h24, trivial⟩ ⟨Tryd.func14, rfl, by kernel_rfl, by kernel_rfl, by kernel_rfl, by kernel_rfl, by kernel_rfl, by kernel_rfl, by kernel_rfl, by kernel_rfl, by kernel_rfl⟩ rfl (loopsAt_zip (Λ := []) (cs := []) (by kernel_rfl) (by kernel_rfl) (by kernel_rfl) trivial)
/-! 15 (*bowline/sorting.Queue).Pop -/
abbrev psh15n : Shape := ⟨[(0, .np)], []⟩
abbrev m15n : List Nat := []
abbrev rs15n : Shape := ⟨[(0, .np), (1, .d true tIt), (2, .d false tI)], []⟩
noncomputable def F15n : (psh15n.den) → Option (rs15n).den := runFnB tb [] [(10, noL)] Tryd.f15 psh15n rs15n 1
theorem call15n : CallOK Tryd.prog 15 (mkCallB psh15n rs15n m15n 1 (F15n)) :=
  runFnB_ok mixed tabOK (Δ := []) trivial ⟨Tryd.func15, rfl, by kernel_rfl, by kernel_rfl, by kernel_rfl, by kernel_rfl, by kernel_rfl, by kernel_rfl, by kernel_rfl, by kernel_rfl, by kernel_rfl⟩ rfl (loopsAt_zip (cs := [.loop (loopOf Tryd.f15 10)]) (by kernel_rfl) (by kernel_rfl) (by kernel_rfl) ⟨noL_ok, trivial⟩)
/-! 18 (*bowline/bowlineref36.Queue).Peek -/
abbrev psh18q : Shape := ⟨[(0, .pt 0 0)], [.box 92 [.d false (.sl tIt)]]⟩
abbrev m18q : List Nat := [0]
abbrev rs18q : Shape := ⟨[(0, .pt 0 0), (1, .d true tIt), (2, .d false tI)], [.box 92 [.d false (.sl tIt)]]⟩
noncomputable def F18q : (psh18q.den) → Option (rs18q).den := runFnB tb [] [] Tryd.f18 psh18q rs18q 1
theorem call18q : CallOK Tryd.prog 18 (mkCallB psh18q rs18q m18q 1 (F18q)) :=
  runFnB_ok mixed tabOK (Δ := []) trivial ⟨Tryd.func18, rfl, by kernel_rfl, by kernel_rfl, by kernel_rfl, by kernel_rfl, by kernel_rfl, by kernel_rfl, by kernel_rfl, by kernel_rfl, by kernel_rfl⟩ rfl (loopsAt_zip (Λ := []) (cs := []) (by kernel_rfl) (by kernel_rfl) (by kernel_rfl) trivial)
/-! 16 (*bowline/bowlineref36.Queue).Pop -/
abbrev psh16q : Shape := ⟨[(0, .pt 0 0)], [.box 92 [.d false (.sl tIt)]]⟩
abbrev m16q : List Nat := [0]
abbrev rs16q : Shape := ⟨[(0, .pt 0 0), (1, .d true tIt), (2, .d false tI)], [.box 92 [.d false (.sl tIt)]]⟩
noncomputable def F16q (F18q : (psh18q.den) → Option (rs18q).den) : (psh16q.den) → Option (rs16q).den := runFnB tb [(18, mkCallB psh18q rs18q m18q 1 F18q)] [] Tryd.f16 psh16q rs16q 1
theorem call16q {F18q : (psh18q.den) → Option (rs18q).den} (h18q : CallOK Tryd.prog 18 (mkCallB psh18q rs18q m18q 1 F18q)) : CallOK Tryd.prog 16 (mkCallB psh16q rs16q m16q 1 (F16q F18q)) :=
  runFnB_ok mixed tabOK (Δ := [(18, mkCallB psh18q rs18q m18q 1 F18q)]) ⟨.inl h18q, trivial⟩ ⟨Tryd.func16, rfl, by kernel_rfl, by kernel_rfl, by kernel_rfl, by kernel_rfl, by kernel_rfl, by kernel_rfl, by kernel_rfl, by kernel_rfl, by kernel_rfl⟩ rfl (loopsAt_zip (Λ := []) (cs := []) (by kernel_rfl) (by kernel_rfl) (by kernel_rfl) trivial)
/-! 18 (*bowline/bowlineref36.Queue).Peek -/
abbrev psh18n : Shape := ⟨[(0, .np)], []⟩
abbrev m18n : List Nat := []
abbrev rs18n : Shape := ⟨[(0, .np), (1, .d true tIt), (2, .d false tI)], []⟩
noncomputable def F18n : (psh18n.den) → Option (rs18n).den := runFnB tb [] [] Tryd.f18 psh18n rs18n 1
theorem call18n : CallOK Tryd.prog 18 (mkCallB psh18n rs18n m18n 1 (F18n)) :=
  runFnB_ok mixed tabOK (Δ := []) trivial ⟨Tryd.func18, rfl, by kernel_rfl, by kernel_rfl, by kernel_rfl, by kernel_rfl, by kernel_rfl, by kernel_rfl, by kernel_rfl, by kernel_rfl, by kernel_rfl⟩ rfl (loopsAt_zip (Λ := []) (cs := []) (by kernel_rfl) (by kernel_rfl) (by kernel_rfl) trivial)
/-! 16 (*bowline/bowlineref36.Queue).Pop -/
abbrev psh16n : Shape := ⟨[(0, .np)], []⟩
abbrev m16n : List Nat := []
abbrev rs16n : Shape := ⟨[(0, .np), (1, .d true tIt), (2, .d false tI)], []⟩
noncomputable def F16n (F18n : (psh18n.den) → Option (rs18n).den) : (psh16n.den) → Option (rs16n).den := runFnB tb [(18, mkCallB psh18n rs18n m18n 1 F18n)] [] Tryd.f16 psh16n rs16n 1
theorem call16n {F18n : (psh18n.den) → Option (rs18n).den} (h18n : CallOK Tryd.prog 18 (mkCallB psh18n rs18n m18n 1 F18n)) : CallOK Tryd.prog 16 (mkCallB psh16n rs16n m16n 1 (F16n F18n)) :=
  runFnB_ok mixed tabOK (Δ := [(18, mkCallB psh18n rs18n m18n 1 F18n)]) ⟨.inl h18n, trivial⟩ ⟨Tryd.func16, rfl, by kernel_rfl, by kernel_rfl, by kernel_rfl, by kernel_rfl, by kernel_rfl, by kernel_rfl, by kernel_rfl, by kernel_rfl, by kernel_rfl⟩ rfl (loopsAt_zip (Λ := []) (cs := []) (by kernel_rfl) (by kernel_rfl) (by kernel_rfl) trivial)
/-! 17 (*bowline/sorting.Queue).Peek -/
abbrev psh17n : Shape := ⟨[(0, .np)], []⟩
abbrev m17n : List Nat := []
abbrev rs17n : Shape := ⟨[(0, .np), (1, .d true tIt), (2, .d false tI)], []⟩
noncomputable def F17n (F19n : (psh19n.den) → Option (rs19n).den) : (psh17n.den) → Option (rs17n).den := runFnB tb [(19, mkCallB psh19n rs19n m19n 1 F19n)] [] Tryd.f17 psh17n rs17n 1
theorem call17n {F19n : (psh19n.den) → Option (rs19n).den} (h19n : CallOK Tryd.prog 19 (mkCallB psh19n rs19n m19n 1 F19n)) : CallOK Tryd.prog 17 (mkCallB psh17n rs17n m17n 1 (F17n F19n)) :=
  runFnB_ok mixed tabOK (Δ := [(19, mkCallB psh19n rs19n m19n 1 F19n)]) ⟨.inl h19n, trivial⟩ ⟨Tryd.func17, rfl, by kernel_rfl, by kernel_rfl, by kernel_rfl, by kernel_rfl, by kernel_rfl, by kernel_rfl, by kernel_rfl, by kernel_rfl, by kernel_rfl⟩ rfl (loopsAt_zip (Λ := []) (cs := []) (by kernel_rfl) (by kernel_rfl) (by kernel_rfl) trivial)
/-! 20 (*bowline/bowlineref36.Queue).Len -/
abbrev psh20q : Shape := ⟨[(0, .pt 0 0)], [.box 92 [.d false (.sl tIt)]]⟩
abbrev m20q : List Nat := [0]
abbrev rs20q : Shape := ⟨[(0, .pt 0 0), (1, .d false tI)], [.box 92 [.d false (.sl tIt)]]⟩
noncomputable def F20q : (psh20q.den) → Option (rs20q).den := runFnB tb [] [] Tryd.f20 psh20q rs20q 1
theorem call20q : CallOK Tryd.prog 20 (mkCallB psh20q rs20q m20q 1 (F20q)) :=
  runFnB_ok mixed tabOK (Δ := []) trivial ⟨Tryd.func20, rfl, by kernel_rfl, by kernel_rfl, by kernel_rfl, by kernel_rfl, by kernel_rfl, by kernel_rfl, by kernel_rfl, by kernel_rfl, by kernel_rfl⟩ rfl (loopsAt_zip (Λ := []) (cs := []) (by kernel_rfl) (by kernel_rfl) (by kernel_rfl) trivial)
/-! 20 (*bowline/bowlineref36.Queue).Len -/
abbrev psh20n : Shape := ⟨[(0, .np)], []⟩
abbrev m20n : List Nat := []
abbrev rs20n : Shape := ⟨[(0, .np), (1, .d false tI)], []⟩
noncomputable def F20n : (psh20n.den) → Option (rs20n).den := runFnB tb [] [] Tryd.f20 psh20n rs20n 1
theorem call20n : CallOK Tryd.prog 20 (mkCallB psh20n rs20n m20n 1 (F20n)) :=
  runFnB_ok mixed tabOK (Δ := []) trivial ⟨Tryd.func20, rfl, by kernel_rfl, by kernel_rfl, by kernel_rfl, by kernel_rfl, by kernel_rfl, by kernel_rfl, by kernel_rfl, by kernel_rfl, by kernel_rfl⟩ rfl (loopsAt_zip (Λ := []) (cs := []) (by kernel_rfl) (by kernel_rfl) (by kernel_rfl) trivial)
/-! 3 bowline/bowlinelaw36.SortingQueues -/
abbrev ps3 : List SV := [.d false (.sl (.pr tI tIt)), .d false .bool]
abbrev rs3 : Shape := ⟨[(0, .d false .bool)], []⟩
abbrev sh3_7 : Shape := ⟨[(5, .np), (6, .np), (24, .d false (.sl (.pr tI tIt))), (25, .d false tI), (26, .d false tI)], []⟩
abbrev w3_7 : List Way := [(none, ⟨[(4, .d false .bool)], []⟩), (some 0, ⟨[], []⟩)]
abbrev sh3_7v1 : Shape := ⟨[(5, .pt 0 0), (6, .pt 1 0), (24, .d false (.sl (.pr tI tIt))), (25, .d false tI), (26, .d false tI)], [.box 90 [.rf 2, .d false tI], .box 92 [.d false (.sl tIt)], .row tEn 96]⟩
abbrev w3_7v1 : List Way := [(none, ⟨[(4, .d false .bool)], []⟩), (some 0, ⟨[], []⟩)]
noncomputable def S3_7 (F13q : (psh13q.den) → Option (rs13q).den) (F13n : (psh13n.den) → Option (rs13n).den) (F14q : (psh14q.den) → Option (rs14q).den) (F14n : (psh14n.den) → Option (rs14n).den) (F15q : (psh15q.den) → Option (rs15q).den) (F15n : (psh15n.den) → Option (rs15n).den) (F16q : (psh16q.den) → Option (rs16q).den) (F16n : (psh16n.den) → Option (rs16n).den) (F17q : (psh17q.den) → Option (rs17q).den) (F17n : (psh17n.den) → Option (rs17n).den) (F18q : (psh18q.den) → Option (rs18q).den) (F18n : (psh18n.den) → Option (rs18n).den) (F19q : (psh19q.den) → Option (rs19q).den) (F19n : (psh19n.den) → Option (rs19n).den) (F20q : (psh20q.den) → Option (rs20q).den) (F20n : (psh20n.den) → Option (rs20n).den) : sh3_7.den → Option (sh3_7.den ⊕ denX w3_7) := stepFn tb [(13, orC (fitB psh13q) (mkCallB psh13q rs13q m13q 2 F13q) (mkCallB psh13n rs13n m13n 2 F13n)), (14, orC (fitB psh14q) (mkCallB psh14q rs14q m14q 2 F14q) (mkCallB psh14n rs14n m14n 2 F14n)), (15, orC (fitB psh15q) (mkCallB psh15q rs15q m15q 1 F15q) (mkCallB psh15n rs15n m15n 1 F15n)), (16, orC (fitB psh16q) (mkCallB psh16q rs16q m16q 1 F16q) (mkCallB psh16n rs16n m16n 1 F16n)), (17, orC (fitB psh17q) (mkCallB psh17q rs17q m17q 1 F17q) (mkCallB psh17n rs17n m17n 1 F17n)), (18, orC (fitB psh18q) (mkCallB psh18q rs18q m18q 1 F18q) (mkCallB psh18n rs18n m18n 1 F18n)), (19, orC (fitB psh19q) (mkCallB psh19q rs19q m19q 1 F19q) (mkCallB psh19n rs19n m19n 1 F19n)), (20, orC (fitB psh20q) (mkCallB psh20q rs20q m20q 1 F20q) (mkCallB psh20n rs20n m20n 1 F20n))] [] (upTo 97) Tryd.f3 7 sh3_7 w3_7
noncomputable def S3_7v1 (F13q : (psh13q.den) → Option (rs13q).den) (F13n : (psh13n.den) → Option (rs13n).den) (F14q : (psh14q.den) → Option (rs14q).den) (F14n : (psh14n.den) → Option (rs14n).den) (F15q : (psh15q.den) → Option (rs15q).den) (F15n : (psh15n.den) → Option (rs15n).den) (F16q : (psh16q.den) → Option (rs16q).den) (F16n : (psh16n.den) → Option (rs16n).den) (F17q : (psh17q.den) → Option (rs17q).den) (F17n : (psh17n.den) → Option (rs17n).den) (F18q : (psh18q.den) → Option (rs18q).den) (F18n : (psh18n.den) → Option (rs18n).den) (F19q : (psh19q.den) → Option (rs19q).den) (F19n : (psh19n.den) → Option (rs19n).den) (F20q : (psh20q.den) → Option (rs20q).den) (F20n : (psh20n.den) → Option (rs20n).den) : sh3_7v1.den → Option (sh3_7v1.den ⊕ denX w3_7v1) := stepFn tb [(13, orC (fitB psh13q) (mkCallB psh13q rs13q m13q 2 F13q) (mkCallB psh13n rs13n m13n 2 F13n)), (14, orC (fitB psh14q) (mkCallB psh14q rs14q m14q 2 F14q) (mkCallB psh14n rs14n m14n 2 F14n)), (15, orC (fitB psh15q) (mkCallB psh15q rs15q m15q 1 F15q) (mkCallB psh15n rs15n m15n 1 F15n)), (16, orC (fitB psh16q) (mkCallB psh16q rs16q m16q 1 F16q) (mkCallB psh16n rs16n m16n 1 F16n)), (17, orC (fitB psh17q) (mkCallB psh17q rs17q m17q 1 F17q) (mkCallB psh17n rs17n m17n 1 F17n)), (18, orC (fitB psh18q) (mkCallB psh18q rs18q m18q 1 F18q) (mkCallB psh18n rs18n m18n 1 F18n)), (19, orC (fitB psh19q) (mkCallB psh19q rs19q m19q 1 F19q) (mkCallB psh19n rs19n m19n 1 F19n)), (20, orC (fitB psh20q) (mkCallB psh20q rs20q m20q 1 F20q) (mkCallB psh20n rs20n m20n 1 F20n))] [] (upTo 97) Tryd.f3 7 sh3_7v1 w3_7v1
noncomputable def F3 (F10 : (SV.denL ps10) → Option (rs10).den) (F11 : (SV.denL ps11) → Option (rs11).den) (F12 : (SV.denL ps12) → Option (rs12).den) (g3_7 : sh3_7.den → Option (denX w3_7)) (g3_7v1 : sh3_7v1.den → Option (denX w3_7v1)) : (SV.denL ps3) → Option (rs3).den := runFn tb [(10, mkCall ps10 rs10 F10), (11, mkCall ps11 rs11 F11), (12, mkCall ps12 rs12 F12)] [(7, orL (fitL sh3_7) (lp sh3_7 w3_7 g3_7) (lp sh3_7v1 w3_7v1 g3_7v1))] Tryd.f3 ps3 rs3
theorem call3 {F10 : (SV.denL ps10) → Option (rs10).den} {F11 : (SV.denL ps11) → Option (rs11).den} {F12 : (SV.denL ps12) → Option (rs12).den} {F13n : (psh13n.den) → Option (rs13n).den} {F13q : (psh13q.den) → Option (rs13q).den} {F14n : (psh14n.den) → Option (rs14n).den} {F14q : (psh14q.den) → Option (rs14q).den} {F15n : (psh15n.den) → Option (rs15n).den} {F15q : (psh15q.den) → Option (rs15q).den} {F16n : (psh16n.den) → Option (rs16n).den} {F16q : (psh16q.den) → Option (rs16q).den} {F17n : (psh17n.den) → Option (rs17n).den} {F17q : (psh17q.den) → Option (rs17q).den} {F18n : (psh18n.den) → Option (rs18n).den} {F18q : (psh18q.den) → Option (rs18q).den} {F19n : (psh19n.den) → Option (rs19n).den} {F19q : (psh19q.den) → Option (rs19q).den} {F20n : (psh20n.den) → Option (rs20n).den} {F20q : (psh20q.den) → Option (rs20q).den} {g3_7 : sh3_7.den → Option (denX w3_7)} {g3_7v1 : sh3_7v1.den → Option (denX w3_7v1)} (h10 : CallOK Tryd.prog 10 (mkCall ps10 rs10 F10)) (h11 : CallOK Tryd.prog 11 (mkCall ps11 rs11 F11)) (h12 : CallOK Tryd.prog 12 (mkCall ps12 rs12 F12)) (h13n : CallOK Tryd.prog 13 (mkCallB psh13n rs13n m13n 2 F13n)) (h13q : CallOK Tryd.prog 13 (mkCallB psh13q rs13q m13q 2 F13q)) (h14n : CallOK Tryd.prog 14 (mkCallB psh14n rs14n m14n 2 F14n)) (h14q : CallOK Tryd.prog 14 (mkCallB psh14q rs14q m14q 2 F14q)) (h15n : CallOK Tryd.prog 15 (mkCallB psh15n rs15n m15n 1 F15n)) (h15q : CallOK Tryd.prog 15 (mkCallB psh15q rs15q m15q 1 F15q)) (h16n : CallOK Tryd.prog 16 (mkCallB psh16n rs16n m16n 1 F16n)) (h16q : CallOK Tryd.prog 16 (mkCallB psh16q rs16q m16q 1 F16q)) (h17n : CallOK Tryd.prog 17 (mkCallB psh17n rs17n m17n 1 F17n)) (h17q : CallOK Tryd.prog 17 (mkCallB psh17q rs17q m17q 1 F17q)) (h18n : CallOK Tryd.prog 18 (mkCallB psh18n rs18n m18n 1 F18n)) (h18q : CallOK Tryd.prog 18 (mkCallB psh18q rs18q m18q 1 F18q)) (h19n : CallOK Tryd.prog 19 (mkCallB psh19n rs19n m19n 1 F19n)) (h19q : CallOK Tryd.prog 19 (mkCallB psh19q rs19q m19q 1 F19q)) (h20n : CallOK Tryd.prog 20 (mkCallB psh20n rs20n m20n 1 F20n)) (h20q : CallOK Tryd.prog 20 (mkCallB psh20q rs20q m20q 1 F20q)) (hg3_7 : Lim (S3_7 F13q F13n F14q F14n F15q F15n F16q F16n F17q F17n F18q F18n F19q F19n F20q F20n) g3_7) (hg3_7v1 : Lim (S3_7v1 F13q F13n F14q F14n F15q F15n F16q F16n F17q F17n F18q F18n F19q F19n F20q F20n) g3_7v1) : CallOK Tryd.prog 3 (mkCall ps3 rs3 (F3 F10 F11 F12 g3_7 g3_7v1)) :=
  runFn_ok mixed tabOK (Δ := [(10, mkCall ps10 rs10 F10), (11, mkCall ps11 rs11 F11), (12, mkCall ps12 rs12 F12)]) ⟨.inl h10, .inl h11, .inl h12, trivial⟩ ⟨Tryd.func3, rfl, by kernel_rfl, by kernel_rfl, by kernel_rfl, by kernel_rfl⟩ rfl (loopsAt_zip (cs := [.loop (loopOf Tryd.f3 7)]) (by kernel_rfl) (by kernel_rfl) (by kernel_rfl) ⟨orL_ok (stepLim_ok mixed tabOK (Δ := [(13, orC (fitB psh13q) (mkCallB psh13q rs13q m13q 2 F13q) (mkCallB psh13n rs13n m13n 2 F13n)), (14, orC (fitB psh14q) (mkCallB psh14q rs14q m14q 2 F14q) (mkCallB psh14n rs14n m14n 2 F14n)), (15, orC (fitB psh15q) (mkCallB psh15q rs15q m15q 1 F15q) (mkCallB psh15n rs15n m15n 1 F15n)), (16, orC (fitB psh16q) (mkCallB psh16q rs16q m16q 1 F16q) (mkCallB psh16n rs16n m16n 1 F16n)), (17, orC (fitB psh17q) (mkCallB psh17q rs17q m17q 1 F17q) (mkCallB psh17n rs17n m17n 1 F17n)), (18, orC (fitB psh18q) (mkCallB psh18q rs18q m18q 1 F18q) (mkCallB psh18n rs18n m18n 1 F18n)), (19, orC (fitB psh19q) (mkCallB psh19q rs19q m19q 1 F19q) (mkCallB psh19n rs19n m19n 1 F19n)), (20, orC (fitB psh20q) (mkCallB psh20q rs20q m20q 1 F20q) (mkCallB psh20n rs20n m20n 1 F20n))]) ⟨.inl (orC_ok h13q h13n), .inl (orC_ok h14q h14n), .inl (orC_ok h15q h15n), .inl (orC_ok h16q h16n), .inl (orC_ok h17q h17n), .inl (orC_ok h18q h18n), .inl (orC_ok h19q h19n), .inl (orC_ok h20q h20n), trivial⟩ hg3_7 (loopsAt_zip (Λ := []) (cs := []) (by kernel_rfl) (by kernel_rfl) (by kernel_rfl) trivial)) (stepLim_ok mixed tabOK (Δ := [(13, orC (fitB psh13q) (mkCallB psh13q rs13q m13q 2 F13q) (mkCallB psh13n rs13n m13n 2 F13n)), (14, orC (fitB psh14q) (mkCallB psh14q rs14q m14q 2 F14q) (mkCallB psh14n rs14n m14n 2 F14n)), (15, orC (fitB psh15q) (mkCallB psh15q rs15q m15q 1 F15q) (mkCallB psh15n rs15n m15n 1 F15n)), (16, orC (fitB psh16q) (mkCallB psh16q rs16q m16q 1 F16q) (mkCallB psh16n rs16n m16n 1 F16n)), (17, orC (fitB psh17q) (mkCallB psh17q rs17q m17q 1 F17q) (mkCallB psh17n rs17n m17n 1 F17n)), (18, orC (fitB psh18q) (mkCallB psh18q rs18q m18q 1 F18q) (mkCallB psh18n rs18n m18n 1 F18n)), (19, orC (fitB psh19q) (mkCallB psh19q rs19q m19q 1 F19q) (mkCallB psh19n rs19n m19n 1 F19n)), (20, orC (fitB psh20q) (mkCallB psh20q rs20q m20q 1 F20q) (mkCallB psh20n rs20n m20n 1 F20n))]) ⟨.inl (orC_ok h13q h13n), .inl (orC_ok h14q h14n), .inl (orC_ok h15q h15n), .inl (orC_ok h16q h16n), .inl (orC_ok h17q h17n), .inl (orC_ok h18q h18n), .inl (orC_ok h19q h19n), .inl (orC_ok h20q h20n), trivial⟩ hg3_7v1 (loopsAt_zip (Λ := []) (cs := []) (by kernel_rfl) (by kernel_rfl) (by kernel_rfl) trivial)), trivial⟩)
/-! 54 bowline/bowlineref36.IsSorted -/
abbrev ps54 : List SV := [.d false (.sl tIt)]
abbrev rs54 : Shape := ⟨[(0, .d false .bool)], []⟩
abbrev sh54_2 : Shape := ⟨[(0, .d false (.sl tIt)), (3, .d false tI)], []⟩
abbrev w54_2 : List Way := [(none, ⟨[(2, .d false .bool)], []⟩), (some 0, ⟨[], []⟩)]
noncomputable def F54 (g54_2 : sh54_2.den → Option (denX w54_2)) : (SV.denL ps54) → Option (rs54).den := runFn tb [] [(2, lp sh54_2 w54_2 g54_2)] Tryd.f54 ps54 rs54
/-! 23 bowline/bowlineref36.Merge -/
abbrev ps23 : List SV := [.d false (.sl tIt), .d false (.sl tIt)]
abbrev rs23 : Shape := ⟨[(0, .d false (.sl tIt)), (1, .d false tI)], []⟩
noncomputable def F23 (F24 : (SV.denL ps24) → Option (rs24).den) (F54 : (SV.denL ps54) → Option (rs54).den) : (SV.denL ps23) → Option (rs23).den := runFn tb [(24, mkCall ps24 rs24 F24), (54, mkCall ps54 rs54 F54)] [] Tryd.f23 ps23 rs23
end Go.Proofs.Rf
/- The functions, evaluated. -/
set_option linter.unusedVariables false
namespace Go.Proofs.Rf
open Go Go.RowKit
theorem F11_eq  : F11 () = (
  some (((), ()), ((), 0, ()), [], ()) : Option rs11.den) := by kernel_rfl
theorem F19q_eq (b0_1 : Int) (rw1 : List ((Int × Int) × Int)) : F19q (((), ()), (((), b0_1, ()), rw1, ())) = (
  some (((), (↑rw1.length : Int), ()), ((), b0_1, ()), rw1, ()) : Option rs19q.den) := by kernel_rfl
theorem F17q_eq (F19q : (psh19q.den) → Option (rs19q).den) (b0_1 : Int) (rw1 : List ((Int × Int) × Int)) : F17q F19q (((), ()), (((), b0_1, ()), rw1, ())) = (
  ((F19q (((), ()), ((), b0_1, ()), rw1, ())).bind fun z =>
        if (z.1.2.1 == 0) = true then some (((), (0, 0), 10, ()), ((), z.2.1.2.1, ()), z.2.2.1, ())
        else
          if 0 < (↑(List.length z.2.2.1) : Int) then
            some
              (((), ((List.getD z.2.2.1 0 ((0, 0), 0)).1.1, (List.getD z.2.2.1 0 ((0, 0), 0)).1.2), 0, ()),
                ((), z.2.1.2.1, ()), z.2.2.1, ())
          else none).bind
    fun z => some z : Option rs17q.den) := by kernel_rfl
theorem F123_eq (a0_0_0 : Int) (a0_0_1 : Int) (a0_1 : Int) (b1_0_0 : Int) (b1_0_1 : Int) (b1_1 : Int) : F123 (((a0_0_0, a0_0_1), a0_1), ((b1_0_0, b1_0_1), b1_1), ()) = (
  some ((decide (a0_0_0 < b1_0_0), ()), ()) : Option rs123.den) := by kernel_rfl
theorem F124_eq (a0_0_0 : Int) (a0_0_1 : Int) (a0_1 : Int) (b1_0_0 : Int) (b1_0_1 : Int) (b1_1 : Int) : F124 (((a0_0_0, a0_0_1), a0_1), ((b1_0_0, b1_0_1), b1_1), ()) = (
  some ((decide (a0_1 < b1_1), ()), ()) : Option rs124.den) := by kernel_rfl
theorem S50_2_eq (F123 : (SV.denL ps123) → Option (rs123).den) (F124 : (SV.denL ps124) → Option (rs124).den) (t8 : Int) (b0_0 : Int) (b0_1 : Int) (b0_2 : Int) (b1_0 : Int) (b1_1 : Int) (b1_2 : Int) : S50_2 F123 F124 (((), (), ((), ()), t8, ()), ((b0_0, b0_1, b0_2, ()), (b1_0, b1_1, b1_2, ()), ())) = (
  if decide (t8 < 2) = true then
    if t8 = (↑0 : Int) then
      (F123 (((b0_0, b0_1), b0_2), ((b1_0, b1_1), b1_2), ())).bind fun y =>
        if y.1.1 = true then
          (F123 (((b0_0, b0_1), b0_2), ((b1_0, b1_1), b1_2), ())).bind fun y => some (Sum.inr (Sum.inl ((y.1.1, ()), ())))
        else
          (F123 (((b1_0, b1_1), b1_2), ((b0_0, b0_1), b0_2), ())).bind fun y =>
            if y.1.1 = true then
              (F123 (((b0_0, b0_1), b0_2), ((b1_0, b1_1), b1_2), ())).bind fun y =>
                some (Sum.inr (Sum.inl ((y.1.1, ()), ())))
            else
              some
                (Sum.inl
                  (((), (), ((), ()), IntKind.i64.wrap (t8 + 1), ()), (b0_0, b0_1, b0_2, ()), (b1_0, b1_1, b1_2, ()), ()))
    else
      if t8 = (↑1 : Int) then
        (F124 (((b0_0, b0_1), b0_2), ((b1_0, b1_1), b1_2), ())).bind fun y =>
          if y.1.1 = true then
            (F124 (((b0_0, b0_1), b0_2), ((b1_0, b1_1), b1_2), ())).bind fun y =>
              some (Sum.inr (Sum.inl ((y.1.1, ()), ())))
          else
            (F124 (((b1_0, b1_1), b1_2), ((b0_0, b0_1), b0_2), ())).bind fun y =>
              if y.1.1 = true then
                (F124 (((b0_0, b0_1), b0_2), ((b1_0, b1_1), b1_2), ())).bind fun y =>
                  some (Sum.inr (Sum.inl ((y.1.1, ()), ())))
              else
                some
                  (Sum.inl
                    (((), (), ((), ()), IntKind.i64.wrap (t8 + 1), ()), (b0_0, b0_1, b0_2, ()), (b1_0, b1_1, b1_2, ()),
                      ()))
      else none
  else some (Sum.inr (Sum.inr ((), ()))) : Option (sh50_2.den ⊕ denX w50_2)) := by kernel_rfl
theorem F50_eq (g50_2 : sh50_2.den → Option (denX w50_2)) (x0_0_0 : Int) (x0_0_1 : Int) (x0_1 : Int) (y1_0_0 : Int) (y1_0_1 : Int) (y1_1 : Int) : F50 g50_2 (((x0_0_0, x0_0_1), x0_1), ((y1_0_0, y1_0_1), y1_1), ()) = (
  (g50_2 (((), (), ((), ()), 0, ()), (x0_0_0, x0_0_1, x0_1, ()), (y1_0_0, y1_0_1, y1_1, ()), ())).bind fun y =>
    Sum.elim (fun y => some ((y.1.1, ()), ())) (fun z => some ((false, ()), ())) y : Option rs50.den) := by kernel_rfl
theorem S15q_12_eq (F50 : (SV.denL ps50) → Option (rs50).den) (last6 : Int) (at7 : Int) (top8 : Int) (t56 : Int) (b0_1 : Int) (b1_0 : Int) (b1_1 : Int) (b2_0 : Int) (b2_1 : Int) (rw3 : List ((Int × Int) × Int)) : S15q_12 F50 (((), (), (), last6, at7, top8, t56, ()), (((), b0_1, ()), (b1_0, b1_1, ()), (b2_0, b2_1, ()), rw3, ())) = (
  if decide (t56 < 2) = true then
    if decide (IntKind.i64.wrap (IntKind.i64.wrap (IntKind.i64.wrap (2 * at7) + 1) + t56) < last6) = true then
      if 0 ≤ IntKind.i64.wrap (IntKind.i64.wrap (IntKind.i64.wrap (2 * at7) + 1) + t56) then
        if IntKind.i64.wrap (IntKind.i64.wrap (IntKind.i64.wrap (2 * at7) + 1) + t56) < (↑rw3.length : Int) then
          if 0 ≤ top8 then
            if top8 < (↑rw3.length : Int) then
              (F50
                    ((((rw3.getD (IntKind.i64.wrap (IntKind.i64.wrap (IntKind.i64.wrap (2 * at7) + 1) + t56)).toNat
                                ((0, 0), 0)).1.1,
                          (rw3.getD (IntKind.i64.wrap (IntKind.i64.wrap (IntKind.i64.wrap (2 * at7) + 1) + t56)).toNat
                                ((0, 0), 0)).1.2),
                        (rw3.getD (IntKind.i64.wrap (IntKind.i64.wrap (IntKind.i64.wrap (2 * at7) + 1) + t56)).toNat
                            ((0, 0), 0)).2),
                      (((rw3.getD top8.toNat ((0, 0), 0)).1.1, (rw3.getD top8.toNat ((0, 0), 0)).1.2),
                        (rw3.getD top8.toNat ((0, 0), 0)).2),
                      ())).bind
                fun y =>
                if y.1.1 = true then
                  some
                    (Sum.inl
                      (((), (), (), last6, at7,
                          IntKind.i64.wrap (IntKind.i64.wrap (IntKind.i64.wrap (2 * at7) + 1) + t56),
                          IntKind.i64.wrap (t56 + 1), ()),
                        ((), b0_1, ()), (b1_0, b1_1, ()), (b2_0, b2_1, ()), rw3, ()))
                else
                  some
                    (Sum.inl
                      (((), (), (), last6, at7, top8, IntKind.i64.wrap (t56 + 1), ()), ((), b0_1, ()), (b1_0, b1_1, ()),
                        (b2_0, b2_1, ()), rw3, ()))
            else none
          else none
        else none
      else none
    else
      some
        (Sum.inl
          (((), (), (), last6, at7, top8, IntKind.i64.wrap (t56 + 1), ()), ((), b0_1, ()), (b1_0, b1_1, ()),
            (b2_0, b2_1, ()), rw3, ()))
  else some (Sum.inr (((), (), (), last6, at7, top8, ()), ((), b0_1, ()), (b1_0, b1_1, ()), (b2_0, b2_1, ()), rw3, ())) : Option (sh15q_12.den ⊕ denX w15q_12)) := by kernel_rfl
theorem S15q_10_eq (g15q_12 : sh15q_12.den → Option (denX w15q_12)) (last6 : Int) (at7 : Int) (b0_1 : Int) (b1_0 : Int) (b1_1 : Int) (b2_0 : Int) (b2_1 : Int) (rw3 : List ((Int × Int) × Int)) : S15q_10 g15q_12 (((), (), (), last6, at7, ()), (((), b0_1, ()), (b1_0, b1_1, ()), (b2_0, b2_1, ()), rw3, ())) = (
  (g15q_12 (((), (), (), last6, at7, at7, 0, ()), ((), b0_1, ()), (b1_0, b1_1, ()), (b2_0, b2_1, ()), rw3, ())).bind
    fun y =>
    if (y.1.2.2.2.2.2.1 == y.1.2.2.2.2.1) = true then
      some (Sum.inr (((), (), 0, ()), ((), y.2.1.2.1, ()), (y.2.2.2.1.1, y.2.2.2.1.2.1, ()), y.2.2.2.2.1, ()))
    else
      if 0 ≤ y.1.2.2.2.2.2.1 then
        if y.1.2.2.2.2.2.1 < (↑(List.length y.2.2.2.2.1) : Int) then
          if 0 ≤ y.1.2.2.2.2.1 then
            if y.1.2.2.2.2.1 < (↑(List.length y.2.2.2.2.1) : Int) then
              if 0 ≤ y.1.2.2.2.2.1 then
                if y.1.2.2.2.2.1 < (↑(List.length y.2.2.2.2.1) : Int) then
                  if 0 ≤ y.1.2.2.2.2.2.1 then
                    if
                        y.1.2.2.2.2.2.1 <
                          (↑(List.set y.2.2.2.2.1 (Int.toNat y.1.2.2.2.2.1)
                                  (((List.getD y.2.2.2.2.1 (Int.toNat y.1.2.2.2.2.2.1) ((0, 0), 0)).1.1,
                                      (List.getD y.2.2.2.2.1 (Int.toNat y.1.2.2.2.2.2.1) ((0, 0), 0)).1.2),
                                    (List.getD y.2.2.2.2.1 (Int.toNat y.1.2.2.2.2.2.1) ((0, 0), 0)).2)).length :
                            Int) then
                      some
                        (Sum.inl
                          (((), (), (), y.1.2.2.2.1, y.1.2.2.2.2.2.1, ()), ((), y.2.1.2.1, ()),
                            (y.2.2.1.1, y.2.2.1.2.1, ()), (y.2.2.2.1.1, y.2.2.2.1.2.1, ()),
                            (List.set y.2.2.2.2.1 (Int.toNat y.1.2.2.2.2.1)
                                  (((List.getD y.2.2.2.2.1 (Int.toNat y.1.2.2.2.2.2.1) ((0, 0), 0)).1.1,
                                      (List.getD y.2.2.2.2.1 (Int.toNat y.1.2.2.2.2.2.1) ((0, 0), 0)).1.2),
                                    (List.getD y.2.2.2.2.1 (Int.toNat y.1.2.2.2.2.2.1) ((0, 0), 0)).2)).set
                              (Int.toNat y.1.2.2.2.2.2.1)
                              (((List.getD y.2.2.2.2.1 (Int.toNat y.1.2.2.2.2.1) ((0, 0), 0)).1.1,
                                  (List.getD y.2.2.2.2.1 (Int.toNat y.1.2.2.2.2.1) ((0, 0), 0)).1.2),
                                (List.getD y.2.2.2.2.1 (Int.toNat y.1.2.2.2.2.1) ((0, 0), 0)).2),
                            ()))
                    else none
                  else none
                else none
              else none
            else none
          else none
        else none
      else none : Option (sh15q_10.den ⊕ denX w15q_10)) := by kernel_rfl
theorem F15q_eq (F17q : (psh17q.den) → Option (rs17q).den) (g15q_10 : sh15q_10.den → Option (denX w15q_10)) (b0_1 : Int) (rw1 : List ((Int × Int) × Int)) : F15q F17q g15q_10 (((), ()), (((), b0_1, ()), rw1, ())) = (
  ((F17q (((), ()), ((), b0_1, ()), rw1, ())).bind fun z =>
        if (z.1.2.1.1 == 0 && (z.1.2.1.2 == 0 && true)) = true then
          if (!z.1.2.2.1 == 0) = true then
            some (((), (z.1.2.1.1, z.1.2.1.2), z.1.2.2.1, ()), ((), z.2.1.2.1, ()), z.2.2.1, ())
          else
            if 0 ≤ IntKind.i64.wrap ((↑(List.length z.2.2.1) : Int) - 1) then
              if IntKind.i64.wrap ((↑(List.length z.2.2.1) : Int) - 1) < (↑(List.length z.2.2.1) : Int) then
                if 0 < (↑(List.length z.2.2.1) : Int) then
                  if 0 ≤ IntKind.i64.wrap ((↑(List.length z.2.2.1) : Int) - 1) then
                    if
                        IntKind.i64.wrap ((↑(List.length z.2.2.1) : Int) - 1) ≤
                          (↑(List.set z.2.2.1 0
                                  (((List.getD z.2.2.1 (IntKind.i64.wrap ((↑(List.length z.2.2.1) : Int) - 1)).toNat
                                            ((0, 0), 0)).1.1,
                                      (List.getD z.2.2.1 (IntKind.i64.wrap ((↑(List.length z.2.2.1) : Int) - 1)).toNat
                                            ((0, 0), 0)).1.2),
                                    (List.getD z.2.2.1 (IntKind.i64.wrap ((↑(List.length z.2.2.1) : Int) - 1)).toNat
                                        ((0, 0), 0)).2)).length :
                            Int) then
                      (g15q_10
                            (((), (), (), IntKind.i64.wrap ((↑(List.length z.2.2.1) : Int) - 1), 0, ()),
                              ((), z.2.1.2.1, ()), (0, 0, ()), (z.1.2.1.1, z.1.2.1.2, ()),
                              List.take ((IntKind.i64.wrap ((↑(List.length z.2.2.1) : Int) - 1)).toNat - 0)
                                (List.set z.2.2.1 0
                                  (((List.getD z.2.2.1 (IntKind.i64.wrap ((↑(List.length z.2.2.1) : Int) - 1)).toNat
                                            ((0, 0), 0)).1.1,
                                      (List.getD z.2.2.1 (IntKind.i64.wrap ((↑(List.length z.2.2.1) : Int) - 1)).toNat
                                            ((0, 0), 0)).1.2),
                                    (List.getD z.2.2.1 (IntKind.i64.wrap ((↑(List.length z.2.2.1) : Int) - 1)).toNat
                                        ((0, 0), 0)).2)),
                              ())).bind
                        fun y => some (((), (y.2.2.1.1, y.2.2.1.2.1), y.1.2.2.1, ()), ((), y.2.1.2.1, ()), y.2.2.2.1, ())
                    else none
                  else none
                else none
              else none
            else none
        else
          if 0 ≤ IntKind.i64.wrap ((↑(List.length z.2.2.1) : Int) - 1) then
            if IntKind.i64.wrap ((↑(List.length z.2.2.1) : Int) - 1) < (↑(List.length z.2.2.1) : Int) then
              if 0 < (↑(List.length z.2.2.1) : Int) then
                if 0 ≤ IntKind.i64.wrap ((↑(List.length z.2.2.1) : Int) - 1) then
                  if
                      IntKind.i64.wrap ((↑(List.length z.2.2.1) : Int) - 1) ≤
                        (↑(List.set z.2.2.1 0
                                (((List.getD z.2.2.1 (IntKind.i64.wrap ((↑(List.length z.2.2.1) : Int) - 1)).toNat
                                          ((0, 0), 0)).1.1,
                                    (List.getD z.2.2.1 (IntKind.i64.wrap ((↑(List.length z.2.2.1) : Int) - 1)).toNat
                                          ((0, 0), 0)).1.2),
                                  (List.getD z.2.2.1 (IntKind.i64.wrap ((↑(List.length z.2.2.1) : Int) - 1)).toNat
                                      ((0, 0), 0)).2)).length :
                          Int) then
                    (g15q_10
                          (((), (), (), IntKind.i64.wrap ((↑(List.length z.2.2.1) : Int) - 1), 0, ()),
                            ((), z.2.1.2.1, ()), (0, 0, ()), (z.1.2.1.1, z.1.2.1.2, ()),
                            List.take ((IntKind.i64.wrap ((↑(List.length z.2.2.1) : Int) - 1)).toNat - 0)
                              (List.set z.2.2.1 0
                                (((List.getD z.2.2.1 (IntKind.i64.wrap ((↑(List.length z.2.2.1) : Int) - 1)).toNat
                                          ((0, 0), 0)).1.1,
                                    (List.getD z.2.2.1 (IntKind.i64.wrap ((↑(List.length z.2.2.1) : Int) - 1)).toNat
                                          ((0, 0), 0)).1.2),
                                  (List.getD z.2.2.1 (IntKind.i64.wrap ((↑(List.length z.2.2.1) : Int) - 1)).toNat
                                      ((0, 0), 0)).2)),
                            ())).bind
                      fun y => some (((), (y.2.2.1.1, y.2.2.1.2.1), y.1.2.2.1, ()), ((), y.2.1.2.1, ()), y.2.2.2.1, ())
                  else none
                else none
              else none
            else none
          else none).bind
    fun z => some z : Option rs15q.den) := by kernel_rfl
theorem S48_2_eq (t5 : List Int) (t6 : Int) (t7 : Int) : S48_2 ((t5, t6, t7, ()), ()) = (
  if decide (t7 < t6) = true then
    if 0 ≤ t7 then
      if t7 < (↑t5.length : Int) then
        if (!t5.getD t7.toNat 0 == 0) = true then some (Sum.inr (Sum.inl ((t5.getD t7.toNat 0, ()), ())))
        else some (Sum.inl ((t5, t6, IntKind.i64.wrap (t7 + 1), ()), ()))
      else none
    else none
  else some (Sum.inr (Sum.inr ((), ()))) : Option (sh48_2.den ⊕ denX w48_2)) := by kernel_rfl
theorem F48_eq (g48_2 : sh48_2.den → Option (denX w48_2)) (l0 : List Int) : F48 g48_2 (l0, ()) = (
  (g48_2 ((l0, (↑l0.length : Int), 0, ()), ())).bind fun y =>
    Sum.elim (fun y => some ((y.1.1, ()), ())) (fun z => some ((0, ()), ())) y : Option rs48.den) := by kernel_rfl
theorem F49_eq (bad0 : Bool) (e1 : Int) : F49 (bad0, e1, ()) = (
  if bad0 = true then some ((e1, ()), ()) else some ((0, ()), ()) : Option rs49.den) := by kernel_rfl
theorem S13q_7_eq (F50 : (SV.denL ps50) → Option (rs50).den) (x1_0 : Int) (x1_1 : Int) (at6 : Int) (b0_1 : Int) (rw1 : List ((Int × Int) × Int)) : S13q_7 F50 (((), (x1_0, x1_1), at6, ()), (((), b0_1, ()), rw1, ())) = (
  if decide (at6 > 0) = true then
    if 0 ≤ at6 then
      if at6 < (↑rw1.length : Int) then
        if 0 ≤ IntKind.i64.wrap ((IntKind.i64.wrap (at6 - 1)).tdiv 2) then
          if IntKind.i64.wrap ((IntKind.i64.wrap (at6 - 1)).tdiv 2) < (↑rw1.length : Int) then
            (F50
                  ((((rw1.getD at6.toNat ((0, 0), 0)).1.1, (rw1.getD at6.toNat ((0, 0), 0)).1.2),
                      (rw1.getD at6.toNat ((0, 0), 0)).2),
                    (((rw1.getD (IntKind.i64.wrap ((IntKind.i64.wrap (at6 - 1)).tdiv 2)).toNat ((0, 0), 0)).1.1,
                        (rw1.getD (IntKind.i64.wrap ((IntKind.i64.wrap (at6 - 1)).tdiv 2)).toNat ((0, 0), 0)).1.2),
                      (rw1.getD (IntKind.i64.wrap ((IntKind.i64.wrap (at6 - 1)).tdiv 2)).toNat ((0, 0), 0)).2),
                    ())).bind
              fun y =>
              if y.1.1 = true then
                if 0 ≤ IntKind.i64.wrap ((IntKind.i64.wrap (at6 - 1)).tdiv 2) then
                  if IntKind.i64.wrap ((IntKind.i64.wrap (at6 - 1)).tdiv 2) < (↑rw1.length : Int) then
                    if 0 ≤ at6 then
                      if at6 < (↑rw1.length : Int) then
                        if 0 ≤ at6 then
                          if at6 < (↑rw1.length : Int) then
                            if 0 ≤ IntKind.i64.wrap ((IntKind.i64.wrap (at6 - 1)).tdiv 2) then
                              if
                                  IntKind.i64.wrap ((IntKind.i64.wrap (at6 - 1)).tdiv 2) <
                                    (↑(rw1.set at6.toNat
                                            (((rw1.getD (IntKind.i64.wrap ((IntKind.i64.wrap (at6 - 1)).tdiv 2)).toNat
                                                      ((0, 0), 0)).1.1,
                                                (rw1.getD (IntKind.i64.wrap ((IntKind.i64.wrap (at6 - 1)).tdiv 2)).toNat
                                                      ((0, 0), 0)).1.2),
                                              (rw1.getD (IntKind.i64.wrap ((IntKind.i64.wrap (at6 - 1)).tdiv 2)).toNat
                                                  ((0, 0), 0)).2)).length :
                                      Int) then
                                some
                                  (Sum.inl
                                    (((), (x1_0, x1_1), IntKind.i64.wrap ((IntKind.i64.wrap (at6 - 1)).tdiv 2), ()),
                                      ((), b0_1, ()),
                                      (rw1.set at6.toNat
                                            (((rw1.getD (IntKind.i64.wrap ((IntKind.i64.wrap (at6 - 1)).tdiv 2)).toNat
                                                      ((0, 0), 0)).1.1,
                                                (rw1.getD (IntKind.i64.wrap ((IntKind.i64.wrap (at6 - 1)).tdiv 2)).toNat
                                                      ((0, 0), 0)).1.2),
                                              (rw1.getD (IntKind.i64.wrap ((IntKind.i64.wrap (at6 - 1)).tdiv 2)).toNat
                                                  ((0, 0), 0)).2)).set
                                        (IntKind.i64.wrap ((IntKind.i64.wrap (at6 - 1)).tdiv 2)).toNat
                                        (((rw1.getD at6.toNat ((0, 0), 0)).1.1, (rw1.getD at6.toNat ((0, 0), 0)).1.2),
                                          (rw1.getD at6.toNat ((0, 0), 0)).2),
                                      ()))
                              else none
                            else none
                          else none
                        else none
                      else none
                    else none
                  else none
                else none
              else some (Sum.inr (((), (x1_0, x1_1), ()), ((), b0_1, ()), rw1, ()))
          else none
        else none
      else none
    else none
  else some (Sum.inr (((), (x1_0, x1_1), ()), ((), b0_1, ()), rw1, ())) : Option (sh13q_7.den ⊕ denX w13q_7)) := by kernel_rfl
theorem F13q_eq (F19q : (psh19q.den) → Option (rs19q).den) (F48 : (SV.denL ps48) → Option (rs48).den) (F49 : (SV.denL ps49) → Option (rs49).den) (g13q_7 : sh13q_7.den → Option (denX w13q_7)) (x1_0 : Int) (x1_1 : Int) (b0_1 : Int) (rw1 : List ((Int × Int) × Int)) : F13q F19q F48 F49 g13q_7 (((), (x1_0, x1_1), ()), (((), b0_1, ()), rw1, ())) = (
  ((F49 (false, 30, ())).bind fun y =>
        (F19q (((), ()), ((), b0_1, ()), rw1, ())).bind fun z =>
          (F49 (decide (z.1.2.1 ≥ 10000), 5, ())).bind fun y_1 =>
            (F48 ([y.1.1, y_1.1.1], ())).bind fun y =>
              if (!y.1.1 == 0) = true then some (((), (x1_0, x1_1), y.1.1, ()), ((), z.2.1.2.1, ()), z.2.2.1, ())
              else
                if List.length z.2.2.1 + [((x1_0, x1_1), z.2.1.2.1)].length ≤ 4294967296 then
                  (g13q_7
                        (((), (x1_0, x1_1),
                            IntKind.i64.wrap ((↑(z.2.2.1 ++ [((x1_0, x1_1), z.2.1.2.1)]).length : Int) - 1), ()),
                          ((), IntKind.i64.wrap (z.2.1.2.1 + 1), ()), z.2.2.1 ++ [((x1_0, x1_1), z.2.1.2.1)], ())).bind
                    fun y => some (((), (y.1.2.1.1, y.1.2.1.2), 0, ()), ((), y.2.1.2.1, ()), y.2.2.1, ())
                else none).bind
    fun z => some z : Option rs13q.den) := by kernel_rfl
theorem F12_eq  : F12 () = (
  some (((), ()), ([], ()), ()) : Option rs12.den) := by kernel_rfl
theorem F19n_eq  : F19n (((), ()), ()) = (
  some (((), 0, ()), ()) : Option rs19n.den) := by kernel_rfl
theorem F13n_eq (F19n : (psh19n.den) → Option (rs19n).den) (F48 : (SV.denL ps48) → Option (rs48).den) (F49 : (SV.denL ps49) → Option (rs49).den) (x1_0 : Int) (x1_1 : Int) : F13n F19n F48 F49 (((), (x1_0, x1_1), ()), ()) = (
  ((F49 (true, 30, ())).bind fun y =>
        (F19n (((), ()), ())).bind fun z =>
          (F49 (decide (z.1.2.1 ≥ 10000), 5, ())).bind fun y_1 =>
            (F48 ([y.1.1, y_1.1.1], ())).bind fun y =>
              if (!y.1.1 == 0) = true then some (((), (x1_0, x1_1), y.1.1, ()), ()) else none).bind
    fun z => some z : Option rs13n.den) := by kernel_rfl
theorem S24_6_eq (l0 : List (Int × Int)) (i4 : Int) (at5 : Int) (rw0 : List (Int × Int)) : S24_6 ((l0, (), i4, at5, ()), (rw0, ())) = (
  if decide (at5 > 0) = true then
    if 0 ≤ IntKind.i64.wrap (at5 - 1) then
      if IntKind.i64.wrap (at5 - 1) < (↑rw0.length : Int) then
        if 0 ≤ i4 then
          if i4 < (↑l0.length : Int) then
            if decide ((rw0.getD (IntKind.i64.wrap (at5 - 1)).toNat (0, 0)).1 > (l0.getD i4.toNat (0, 0)).1) = true then
              some (Sum.inl ((l0, (), i4, IntKind.i64.wrap (at5 - 1), ()), rw0, ()))
            else some (Sum.inr ((l0, (), i4, at5, ()), rw0, ()))
          else none
        else none
      else none
    else none
  else some (Sum.inr ((l0, (), i4, at5, ()), rw0, ())) : Option (sh24_6.den ⊕ denX w24_6)) := by kernel_rfl
theorem S24_3_eq (g24_6 : sh24_6.den → Option (denX w24_6)) (l0 : List (Int × Int)) (i4 : Int) (rw0 : List (Int × Int)) : S24_3 g24_6 ((l0, (), i4, ()), (rw0, ())) = (
  if decide (i4 < (↑l0.length : Int)) = true then
    (g24_6 ((l0, (), i4, (↑rw0.length : Int), ()), rw0, ())).bind fun y =>
      if List.length y.2.1 + 1 ≤ 4294967296 then
        if 0 ≤ IntKind.i64.wrap (y.1.2.2.2.1 + 1) then
          if IntKind.i64.wrap (y.1.2.2.2.1 + 1) ≤ (↑(y.2.1 ++ [(0, 0)]).length : Int) then
            if (↑(y.2.1 ++ [(0, 0)]).length : Int) ≤ (↑(y.2.1 ++ [(0, 0)]).length : Int) then
              if 0 ≤ y.1.2.2.2.1 then
                if y.1.2.2.2.1 ≤ (↑(y.2.1 ++ [(0, 0)]).length : Int) then
                  if (↑(y.2.1 ++ [(0, 0)]).length : Int) ≤ (↑(y.2.1 ++ [(0, 0)]).length : Int) then
                    if 0 ≤ y.1.2.2.1 then
                      if y.1.2.2.1 < (↑(List.length y.1.1) : Int) then
                        if 0 ≤ y.1.2.2.2.1 then
                          if
                              y.1.2.2.2.1 <
                                (↑(List.take (IntKind.i64.wrap (y.1.2.2.2.1 + 1)).toNat (y.2.1 ++ [(0, 0)]) ++
                                          List.take
                                            ((y.2.1 ++ [(0, 0)]).length - (IntKind.i64.wrap (y.1.2.2.2.1 + 1)).toNat)
                                            (List.take ((y.2.1 ++ [(0, 0)]).length - Int.toNat y.1.2.2.2.1)
                                              (List.drop (Int.toNat y.1.2.2.2.1) (y.2.1 ++ [(0, 0)]))) ++
                                        List.drop
                                          ((IntKind.i64.wrap (y.1.2.2.2.1 + 1)).toNat +
                                            min
                                              (List.take ((y.2.1 ++ [(0, 0)]).length - Int.toNat y.1.2.2.2.1)
                                                  (List.drop (Int.toNat y.1.2.2.2.1) (y.2.1 ++ [(0, 0)]))).length
                                              ((y.2.1 ++ [(0, 0)]).length - (IntKind.i64.wrap (y.1.2.2.2.1 + 1)).toNat))
                                          (y.2.1 ++ [(0, 0)])).length :
                                  Int) then
                            some
                              (Sum.inl
                                ((y.1.1, (), IntKind.i64.wrap (y.1.2.2.1 + 1), ()),
                                  (List.take (IntKind.i64.wrap (y.1.2.2.2.1 + 1)).toNat (y.2.1 ++ [(0, 0)]) ++
                                          List.take
                                            ((y.2.1 ++ [(0, 0)]).length - (IntKind.i64.wrap (y.1.2.2.2.1 + 1)).toNat)
                                            (List.take ((y.2.1 ++ [(0, 0)]).length - Int.toNat y.1.2.2.2.1)
                                              (List.drop (Int.toNat y.1.2.2.2.1) (y.2.1 ++ [(0, 0)]))) ++
                                        List.drop
                                          ((IntKind.i64.wrap (y.1.2.2.2.1 + 1)).toNat +
                                            min
                                              (List.take ((y.2.1 ++ [(0, 0)]).length - Int.toNat y.1.2.2.2.1)
                                                  (List.drop (Int.toNat y.1.2.2.2.1) (y.2.1 ++ [(0, 0)]))).length
                                              ((y.2.1 ++ [(0, 0)]).length - (IntKind.i64.wrap (y.1.2.2.2.1 + 1)).toNat))
                                          (y.2.1 ++ [(0, 0)])).set
                                    (Int.toNat y.1.2.2.2.1)
                                    ((List.getD y.1.1 (Int.toNat y.1.2.2.1) (0, 0)).1,
                                      (List.getD y.1.1 (Int.toNat y.1.2.2.1) (0, 0)).2),
                                  ()))
                          else none
                        else none
                      else none
                    else none
                  else none
                else none
              else none
            else none
          else none
        else none
      else none
  else some (Sum.inr (((), ()), rw0, ())) : Option (sh24_3.den ⊕ denX w24_3)) := by kernel_rfl
theorem F24_eq (g24_3 : sh24_3.den → Option (denX w24_3)) (l0 : List (Int × Int)) : F24 g24_3 (l0, ()) = (
  (g24_3 ((l0, (), 0, ()), [], ())).bind fun y => some ((y.2.1, ()), ()) : Option rs24.den) := by kernel_rfl
theorem F14q_eq (F24 : (SV.denL ps24) → Option (rs24).den) (x1_0 : Int) (x1_1 : Int) (b0_0 : List (Int × Int)) : F14q F24 (((), (x1_0, x1_1), ()), ((b0_0, ()), ())) = (
  (if decide ((↑b0_0.length : Int) ≥ 10000) = true then some (((), (x1_0, x1_1), 5, ()), (b0_0, ()), ())
      else
        if 0 + b0_0.length ≤ 4294967296 then
          if b0_0.length + [(x1_0, x1_1)].length ≤ 4294967296 then
            (F24 (b0_0 ++ [(x1_0, x1_1)], ())).bind fun y => some (((), (x1_0, x1_1), 0, ()), (y.1.1, ()), ())
          else none
        else none).bind
    fun z => some z : Option rs14q.den) := by kernel_rfl
theorem F14n_eq (F24 : (SV.denL ps24) → Option (rs24).den) (x1_0 : Int) (x1_1 : Int) : F14n F24 (((), (x1_0, x1_1), ()), ()) = (
  some (((), (x1_0, x1_1), 30, ()), ()) : Option rs14n.den) := by kernel_rfl
theorem F15n_eq  : F15n (((), ()), ()) = (
  some (((), (0, 0), 30, ()), ()) : Option rs15n.den) := by kernel_rfl
theorem F18q_eq (b0_0 : List (Int × Int)) : F18q (((), ()), ((b0_0, ()), ())) = (
  (if ((↑b0_0.length : Int) == 0) = true then some (((), (0, 0), 10, ()), (b0_0, ()), ())
      else
        if 0 < (↑b0_0.length : Int) then
          some (((), ((b0_0.getD 0 (0, 0)).1, (b0_0.getD 0 (0, 0)).2), 0, ()), (b0_0, ()), ())
        else none).bind
    fun z => some z : Option rs18q.den) := by kernel_rfl
theorem F16q_eq (F18q : (psh18q.den) → Option (rs18q).den) (b0_0 : List (Int × Int)) : F16q F18q (((), ()), ((b0_0, ()), ())) = (
  ((F18q (((), ()), (b0_0, ()), ())).bind fun z =>
        if (z.1.2.2.1 == 0) = true then
          if 1 ≤ (↑(List.length z.2.1.1) : Int) then
            if (↑(List.length z.2.1.1) : Int) ≤ (↑(List.length z.2.1.1) : Int) then
              some (((), (z.1.2.1.1, z.1.2.1.2), z.1.2.2.1, ()), (List.drop 1 z.2.1.1, ()), ())
            else none
          else none
        else some (((), (z.1.2.1.1, z.1.2.1.2), z.1.2.2.1, ()), (z.2.1.1, ()), ())).bind
    fun z => some z : Option rs16q.den) := by kernel_rfl
theorem F18n_eq  : F18n (((), ()), ()) = (
  some (((), (0, 0), 10, ()), ()) : Option rs18n.den) := by kernel_rfl
theorem F16n_eq (F18n : (psh18n.den) → Option (rs18n).den) : F16n F18n (((), ()), ()) = (
  some (((), (0, 0), 30, ()), ()) : Option rs16n.den) := by kernel_rfl
theorem F17n_eq (F19n : (psh19n.den) → Option (rs19n).den) : F17n F19n (((), ()), ()) = (
  ((F19n (((), ()), ())).bind fun z => if (z.1.2.1 == 0) = true then some (((), (0, 0), 10, ()), ()) else none).bind
    fun z => some z : Option rs17n.den) := by kernel_rfl
theorem F20q_eq (b0_0 : List (Int × Int)) : F20q (((), ()), ((b0_0, ()), ())) = (
  some (((), (↑b0_0.length : Int), ()), (b0_0, ()), ()) : Option rs20q.den) := by kernel_rfl
theorem F20n_eq  : F20n (((), ()), ()) = (
  some (((), 0, ()), ()) : Option rs20n.den) := by kernel_rfl
theorem S3_7_eq (F13q : (psh13q.den) → Option (rs13q).den) (F13n : (psh13n.den) → Option (rs13n).den) (F14q : (psh14q.den) → Option (rs14q).den) (F14n : (psh14n.den) → Option (rs14n).den) (F15q : (psh15q.den) → Option (rs15q).den) (F15n : (psh15n.den) → Option (rs15n).den) (F16q : (psh16q.den) → Option (rs16q).den) (F16n : (psh16n.den) → Option (rs16n).den) (F17q : (psh17q.den) → Option (rs17q).den) (F17n : (psh17n.den) → Option (rs17n).den) (F18q : (psh18q.den) → Option (rs18q).den) (F18n : (psh18n.den) → Option (rs18n).den) (F19q : (psh19q.den) → Option (rs19q).den) (F19n : (psh19n.den) → Option (rs19n).den) (F20q : (psh20q.den) → Option (rs20q).den) (F20n : (psh20n.den) → Option (rs20n).den) (t24 : List (Int × (Int × Int))) (t25 : Int) (t26 : Int) : S3_7 F13q F13n F14q F14n F15q F15n F16q F16n F17q F17n F18q F18n F19q F19n F20q F20n (((), (), t24, t25, t26, ()), ()) = (
  if decide (t26 < t25) = true then
    if 0 ≤ t26 then
      if t26 < (↑t24.length : Int) then
        if ((t24.getD t26.toNat (0, 0, 0)).1 == 0) = true then
          if ((t24.getD t26.toNat (0, 0, 0)).1 == 0) = true then
            (F13n (((), ((t24.getD t26.toNat (0, 0, 0)).2.1, (t24.getD t26.toNat (0, 0, 0)).2.2), ()), ())).bind fun z =>
              (F14n (((), ((t24.getD t26.toNat (0, 0, 0)).2.1, (t24.getD t26.toNat (0, 0, 0)).2.2), ()), ())).bind
                fun z_1 =>
                if (!z.1.2.2.1 == z_1.1.2.2.1) = true then some (Sum.inr (Sum.inl ((false, ()), ())))
                else some (Sum.inl (((), (), t24, t25, IntKind.i64.wrap (t26 + 1), ()), ()))
          else
            if ((t24.getD t26.toNat (0, 0, 0)).1 == 2) = true then
              (F15n (((), ()), ())).bind fun z =>
                (F16n (((), ()), ())).bind fun z_1 =>
                  if (!(z.1.2.1.1 == z_1.1.2.1.1 && (z.1.2.1.2 == z_1.1.2.1.2 && true))) = true then
                    some (Sum.inr (Sum.inl ((false, ()), ())))
                  else
                    if (!z.1.2.2.1 == z_1.1.2.2.1) = true then some (Sum.inr (Sum.inl ((false, ()), ())))
                    else some (Sum.inl (((), (), t24, t25, IntKind.i64.wrap (t26 + 1), ()), ()))
            else
              (F17n (((), ()), ())).bind fun z =>
                (F18n (((), ()), ())).bind fun z_1 =>
                  if (!(z.1.2.1.1 == z_1.1.2.1.1 && (z.1.2.1.2 == z_1.1.2.1.2 && true))) = true then
                    some (Sum.inr (Sum.inl ((false, ()), ())))
                  else
                    if (!z.1.2.2.1 == z_1.1.2.2.1) = true then some (Sum.inr (Sum.inl ((false, ()), ())))
                    else
                      (F19n (((), ()), ())).bind fun z =>
                        (F20n (((), ()), ())).bind fun z_2 =>
                          if (!z.1.2.1 == z_2.1.2.1) = true then some (Sum.inr (Sum.inl ((false, ()), ())))
                          else some (Sum.inl (((), (), t24, t25, IntKind.i64.wrap (t26 + 1), ()), ()))
        else
          if ((t24.getD t26.toNat (0, 0, 0)).1 == 1) = true then
            (F13n (((), ((t24.getD t26.toNat (0, 0, 0)).2.1, (t24.getD t26.toNat (0, 0, 0)).2.2), ()), ())).bind fun z =>
              (F14n (((), ((t24.getD t26.toNat (0, 0, 0)).2.1, (t24.getD t26.toNat (0, 0, 0)).2.2), ()), ())).bind
                fun z_1 =>
                if (!z.1.2.2.1 == z_1.1.2.2.1) = true then some (Sum.inr (Sum.inl ((false, ()), ())))
                else some (Sum.inl (((), (), t24, t25, IntKind.i64.wrap (t26 + 1), ()), ()))
          else
            if ((t24.getD t26.toNat (0, 0, 0)).1 == 2) = true then
              (F15n (((), ()), ())).bind fun z =>
                (F16n (((), ()), ())).bind fun z_1 =>
                  if (!(z.1.2.1.1 == z_1.1.2.1.1 && (z.1.2.1.2 == z_1.1.2.1.2 && true))) = true then
                    some (Sum.inr (Sum.inl ((false, ()), ())))
                  else
                    if (!z.1.2.2.1 == z_1.1.2.2.1) = true then some (Sum.inr (Sum.inl ((false, ()), ())))
                    else some (Sum.inl (((), (), t24, t25, IntKind.i64.wrap (t26 + 1), ()), ()))
            else
              (F17n (((), ()), ())).bind fun z =>
                (F18n (((), ()), ())).bind fun z_1 =>
                  if (!(z.1.2.1.1 == z_1.1.2.1.1 && (z.1.2.1.2 == z_1.1.2.1.2 && true))) = true then
                    some (Sum.inr (Sum.inl ((false, ()), ())))
                  else
                    if (!z.1.2.2.1 == z_1.1.2.2.1) = true then some (Sum.inr (Sum.inl ((false, ()), ())))
                    else
                      (F19n (((), ()), ())).bind fun z =>
                        (F20n (((), ()), ())).bind fun z_2 =>
                          if (!z.1.2.1 == z_2.1.2.1) = true then some (Sum.inr (Sum.inl ((false, ()), ())))
                          else some (Sum.inl (((), (), t24, t25, IntKind.i64.wrap (t26 + 1), ()), ()))
      else none
    else none
  else some (Sum.inr (Sum.inr ((), ()))) : Option (sh3_7.den ⊕ denX w3_7)) := by kernel_rfl
theorem S3_7v1_eq (F13q : (psh13q.den) → Option (rs13q).den) (F13n : (psh13n.den) → Option (rs13n).den) (F14q : (psh14q.den) → Option (rs14q).den) (F14n : (psh14n.den) → Option (rs14n).den) (F15q : (psh15q.den) → Option (rs15q).den) (F15n : (psh15n.den) → Option (rs15n).den) (F16q : (psh16q.den) → Option (rs16q).den) (F16n : (psh16n.den) → Option (rs16n).den) (F17q : (psh17q.den) → Option (rs17q).den) (F17n : (psh17n.den) → Option (rs17n).den) (F18q : (psh18q.den) → Option (rs18q).den) (F18n : (psh18n.den) → Option (rs18n).den) (F19q : (psh19q.den) → Option (rs19q).den) (F19n : (psh19n.den) → Option (rs19n).den) (F20q : (psh20q.den) → Option (rs20q).den) (F20n : (psh20n.den) → Option (rs20n).den) (t24 : List (Int × (Int × Int))) (t25 : Int) (t26 : Int) (b0_1 : Int) (b1_0 : List (Int × Int)) (rw2 : List ((Int × Int) × Int)) : S3_7v1 F13q F13n F14q F14n F15q F15n F16q F16n F17q F17n F18q F18n F19q F19n F20q F20n (((), (), t24, t25, t26, ()), (((), b0_1, ()), (b1_0, ()), rw2, ())) = (
  if decide (t26 < t25) = true then
    if 0 ≤ t26 then
      if t26 < (↑t24.length : Int) then
        if ((t24.getD t26.toNat (0, 0, 0)).1 == 0) = true then
          if ((t24.getD t26.toNat (0, 0, 0)).1 == 0) = true then
            (F13q
                  (((), ((t24.getD t26.toNat (0, 0, 0)).2.1, (t24.getD t26.toNat (0, 0, 0)).2.2), ()), ((), b0_1, ()),
                    rw2, ())).bind
              fun z =>
              (F14q
                    (((), ((t24.getD t26.toNat (0, 0, 0)).2.1, (t24.getD t26.toNat (0, 0, 0)).2.2), ()), (b1_0, ()),
                      ())).bind
                fun z_1 =>
                if (!z.1.2.2.1 == z_1.1.2.2.1) = true then some (Sum.inr (Sum.inl ((false, ()), ())))
                else
                  some
                    (Sum.inl
                      (((), (), t24, t25, IntKind.i64.wrap (t26 + 1), ()), ((), z.2.1.2.1, ()), (z_1.2.1.1, ()), z.2.2.1,
                        ()))
          else
            if ((t24.getD t26.toNat (0, 0, 0)).1 == 2) = true then
              (F15q (((), ()), ((), b0_1, ()), rw2, ())).bind fun z =>
                (F16q (((), ()), (b1_0, ()), ())).bind fun z_1 =>
                  if (!(z.1.2.1.1 == z_1.1.2.1.1 && (z.1.2.1.2 == z_1.1.2.1.2 && true))) = true then
                    some (Sum.inr (Sum.inl ((false, ()), ())))
                  else
                    if (!z.1.2.2.1 == z_1.1.2.2.1) = true then some (Sum.inr (Sum.inl ((false, ()), ())))
                    else
                      some
                        (Sum.inl
                          (((), (), t24, t25, IntKind.i64.wrap (t26 + 1), ()), ((), z.2.1.2.1, ()), (z_1.2.1.1, ()),
                            z.2.2.1, ()))
            else
              (F17q (((), ()), ((), b0_1, ()), rw2, ())).bind fun z =>
                (F18q (((), ()), (b1_0, ()), ())).bind fun z_1 =>
                  if (!(z.1.2.1.1 == z_1.1.2.1.1 && (z.1.2.1.2 == z_1.1.2.1.2 && true))) = true then
                    some (Sum.inr (Sum.inl ((false, ()), ())))
                  else
                    if (!z.1.2.2.1 == z_1.1.2.2.1) = true then some (Sum.inr (Sum.inl ((false, ()), ())))
                    else
                      (F19q (((), ()), ((), z.2.1.2.1, ()), z.2.2.1, ())).bind fun z =>
                        (F20q (((), ()), (z_1.2.1.1, ()), ())).bind fun z_2 =>
                          if (!z.1.2.1 == z_2.1.2.1) = true then some (Sum.inr (Sum.inl ((false, ()), ())))
                          else
                            some
                              (Sum.inl
                                (((), (), t24, t25, IntKind.i64.wrap (t26 + 1), ()), ((), z.2.1.2.1, ()), (z_2.2.1.1, ()),
                                  z.2.2.1, ()))
        else
          if ((t24.getD t26.toNat (0, 0, 0)).1 == 1) = true then
            (F13q
                  (((), ((t24.getD t26.toNat (0, 0, 0)).2.1, (t24.getD t26.toNat (0, 0, 0)).2.2), ()), ((), b0_1, ()),
                    rw2, ())).bind
              fun z =>
              (F14q
                    (((), ((t24.getD t26.toNat (0, 0, 0)).2.1, (t24.getD t26.toNat (0, 0, 0)).2.2), ()), (b1_0, ()),
                      ())).bind
                fun z_1 =>
                if (!z.1.2.2.1 == z_1.1.2.2.1) = true then some (Sum.inr (Sum.inl ((false, ()), ())))
                else
                  some
                    (Sum.inl
                      (((), (), t24, t25, IntKind.i64.wrap (t26 + 1), ()), ((), z.2.1.2.1, ()), (z_1.2.1.1, ()), z.2.2.1,
                        ()))
          else
            if ((t24.getD t26.toNat (0, 0, 0)).1 == 2) = true then
              (F15q (((), ()), ((), b0_1, ()), rw2, ())).bind fun z =>
                (F16q (((), ()), (b1_0, ()), ())).bind fun z_1 =>
                  if (!(z.1.2.1.1 == z_1.1.2.1.1 && (z.1.2.1.2 == z_1.1.2.1.2 && true))) = true then
                    some (Sum.inr (Sum.inl ((false, ()), ())))
                  else
                    if (!z.1.2.2.1 == z_1.1.2.2.1) = true then some (Sum.inr (Sum.inl ((false, ()), ())))
                    else
                      some
                        (Sum.inl
                          (((), (), t24, t25, IntKind.i64.wrap (t26 + 1), ()), ((), z.2.1.2.1, ()), (z_1.2.1.1, ()),
                            z.2.2.1, ()))
            else
              (F17q (((), ()), ((), b0_1, ()), rw2, ())).bind fun z =>
                (F18q (((), ()), (b1_0, ()), ())).bind fun z_1 =>
                  if (!(z.1.2.1.1 == z_1.1.2.1.1 && (z.1.2.1.2 == z_1.1.2.1.2 && true))) = true then
                    some (Sum.inr (Sum.inl ((false, ()), ())))
                  else
                    if (!z.1.2.2.1 == z_1.1.2.2.1) = true then some (Sum.inr (Sum.inl ((false, ()), ())))
                    else
                      (F19q (((), ()), ((), z.2.1.2.1, ()), z.2.2.1, ())).bind fun z =>
                        (F20q (((), ()), (z_1.2.1.1, ()), ())).bind fun z_2 =>
                          if (!z.1.2.1 == z_2.1.2.1) = true then some (Sum.inr (Sum.inl ((false, ()), ())))
                          else
                            some
                              (Sum.inl
                                (((), (), t24, t25, IntKind.i64.wrap (t26 + 1), ()), ((), z.2.1.2.1, ()), (z_2.2.1.1, ()),
                                  z.2.2.1, ()))
      else none
    else none
  else some (Sum.inr (Sum.inr ((), ()))) : Option (sh3_7v1.den ⊕ denX w3_7v1)) := by kernel_rfl
theorem F3_eq (F10 : (SV.denL ps10) → Option (rs10).den) (F11 : (SV.denL ps11) → Option (rs11).den) (F12 : (SV.denL ps12) → Option (rs12).den) (g3_7 : sh3_7.den → Option (denX w3_7)) (g3_7v1 : sh3_7v1.den → Option (denX w3_7v1)) (deeds0 : List (Int × (Int × Int))) (none1 : Bool) : F3 F10 F11 F12 g3_7 g3_7v1 (deeds0, none1, ()) = (
  if decide ((↑deeds0.length : Int) > 100) = true then (F10 ()).bind fun y => some ((y.1.1, ()), ())
  else
    (F11 ()).bind fun y =>
      (F12 ()).bind fun y_1 =>
        if none1 = true then
          (g3_7 (((), (), deeds0, (↑deeds0.length : Int), 0, ()), ())).bind fun y =>
            Sum.elim (fun y => some ((y.1.1, ()), ())) (fun z => (F10 ()).bind fun y => some ((y.1.1, ()), ())) y
        else
          (g3_7v1
                (((), (), deeds0, (↑deeds0.length : Int), 0, ()), ((), y.2.1.2.1, ()), (y_1.2.1.1, ()), y.2.2.1, ())).bind
            fun y => Sum.elim (fun y => some ((y.1.1, ()), ())) (fun z => (F10 ()).bind fun y => some ((y.1.1, ()), ())) y : Option rs3.den) := by kernel_rfl
end Go.Proofs.Rf
/- The functions, evaluated. -/
set_option linter.unusedVariables false
namespace Go.Proofs.Rf
open Go Go.RowKit
end Go.Proofs.Rf
/- The functions, filled in. -/
namespace Go.Proofs.Rf
open Go Go.RowKit
noncomputable def L11 : (SV.denL ps11) → Option (rs11).den := F11
theorem okL11 : CallOK Tryd.prog 11 (mkCall ps11 rs11 L11) := call11
noncomputable def L12 : (SV.denL ps12) → Option (rs12).den := F12
theorem okL12 : CallOK Tryd.prog 12 (mkCall ps12 rs12 L12) := call12
noncomputable def L19q : (psh19q.den) → Option (rs19q).den := F19q
theorem okL19q : CallOK Tryd.prog 19 (mkCallB psh19q rs19q m19q 1 L19q) := call19q
noncomputable def Lg48_2 : sh48_2.den → Option (denX w48_2) := limL (S48_2)
noncomputable def L48 : (SV.denL ps48) → Option (rs48).den := F48 Lg48_2
theorem okL48 : CallOK Tryd.prog 48 (mkCall ps48 rs48 L48) := call48 (lim_limL _)
noncomputable def L49 : (SV.denL ps49) → Option (rs49).den := F49
theorem okL49 : CallOK Tryd.prog 49 (mkCall ps49 rs49 L49) := call49
noncomputable def L123 : (SV.denL ps123) → Option (rs123).den := F123
theorem okL123 : CallOK Tryd.prog 123 (mkCall ps123 rs123 L123) := call123
noncomputable def L124 : (SV.denL ps124) → Option (rs124).den := F124
theorem okL124 : CallOK Tryd.prog 124 (mkCall ps124 rs124 L124) := call124
noncomputable def Lg50_2 : sh50_2.den → Option (denX w50_2) := limL (S50_2 L123 L124)
noncomputable def L50 : (SV.denL ps50) → Option (rs50).den := F50 Lg50_2
theorem okL50 : CallOK Tryd.prog 50 (mkCall ps50 rs50 L50) := call50 okL123 okL124 (lim_limL _)
noncomputable def Lg13q_7 : sh13q_7.den → Option (denX w13q_7) := limL (S13q_7 L50)
noncomputable def L13q : (psh13q.den) → Option (rs13q).den := F13q L19q L48 L49 Lg13q_7
theorem okL13q : CallOK Tryd.prog 13 (mkCallB psh13q rs13q m13q 2 L13q) := call13q okL19q okL48 okL49 okL50 (lim_limL _)
noncomputable def L19n : (psh19n.den) → Option (rs19n).den := F19n
theorem okL19n : CallOK Tryd.prog 19 (mkCallB psh19n rs19n m19n 1 L19n) := call19n
noncomputable def L13n : (psh13n.den) → Option (rs13n).den := F13n L19n L48 L49
theorem okL13n : CallOK Tryd.prog 13 (mkCallB psh13n rs13n m13n 2 L13n) := call13n okL19n okL48 okL49
noncomputable def Lg24_6 : sh24_6.den → Option (denX w24_6) := limL (S24_6)
noncomputable def Lg24_3 : sh24_3.den → Option (denX w24_3) := limL (S24_3 Lg24_6)
noncomputable def L24 : (SV.denL ps24) → Option (rs24).den := F24 Lg24_3
theorem okL24 : CallOK Tryd.prog 24 (mkCall ps24 rs24 L24) := call24 (lim_limL _) (lim_limL _)
noncomputable def L14q : (psh14q.den) → Option (rs14q).den := F14q L24
theorem okL14q : CallOK Tryd.prog 14 (mkCallB psh14q rs14q m14q 2 L14q) := call14q okL24
noncomputable def L14n : (psh14n.den) → Option (rs14n).den := F14n L24
theorem okL14n : CallOK Tryd.prog 14 (mkCallB psh14n rs14n m14n 2 L14n) := call14n okL24
noncomputable def L17q : (psh17q.den) → Option (rs17q).den := F17q L19q
theorem okL17q : CallOK Tryd.prog 17 (mkCallB psh17q rs17q m17q 1 L17q) := call17q okL19q
noncomputable def Lg15q_12 : sh15q_12.den → Option (denX w15q_12) := limL (S15q_12 L50)
noncomputable def Lg15q_10 : sh15q_10.den → Option (denX w15q_10) := limL (S15q_10 Lg15q_12)
noncomputable def L15q : (psh15q.den) → Option (rs15q).den := F15q L17q Lg15q_10
theorem okL15q : CallOK Tryd.prog 15 (mkCallB psh15q rs15q m15q 1 L15q) := call15q okL17q okL50 (lim_limL _) (lim_limL _)
noncomputable def L15n : (psh15n.den) → Option (rs15n).den := F15n
theorem okL15n : CallOK Tryd.prog 15 (mkCallB psh15n rs15n m15n 1 L15n) := call15n
noncomputable def L18q : (psh18q.den) → Option (rs18q).den := F18q
theorem okL18q : CallOK Tryd.prog 18 (mkCallB psh18q rs18q m18q 1 L18q) := call18q
noncomputable def L16q : (psh16q.den) → Option (rs16q).den := F16q L18q
theorem okL16q : CallOK Tryd.prog 16 (mkCallB psh16q rs16q m16q 1 L16q) := call16q okL18q
noncomputable def L18n : (psh18n.den) → Option (rs18n).den := F18n
theorem okL18n : CallOK Tryd.prog 18 (mkCallB psh18n rs18n m18n 1 L18n) := call18n
noncomputable def L16n : (psh16n.den) → Option (rs16n).den := F16n L18n
theorem okL16n : CallOK Tryd.prog 16 (mkCallB psh16n rs16n m16n 1 L16n) := call16n okL18n
noncomputable def L17n : (psh17n.den) → Option (rs17n).den := F17n L19n
theorem okL17n : CallOK Tryd.prog 17 (mkCallB psh17n rs17n m17n 1 L17n) := call17n okL19n
noncomputable def L20q : (psh20q.den) → Option (rs20q).den := F20q
theorem okL20q : CallOK Tryd.prog 20 (mkCallB psh20q rs20q m20q 1 L20q) := call20q
noncomputable def L20n : (psh20n.den) → Option (rs20n).den := F20n
theorem okL20n : CallOK Tryd.prog 20 (mkCallB psh20n rs20n m20n 1 L20n) := call20n
end Go.Proofs.Rf
/- Lists of items: copies, comparisons, sorted lists. -/
namespace Go.Proofs.Rf
open Go

/-- Loops: what holds at the head, and becomes smaller. -/
theorem limL_ind {A B : Type} {f : A → Option (A ⊕ B)} (μ : A → Nat) (I : A → Prop) (Q : B → Prop) (h : ∀ x, I x → (∃ y, f x = some (.inl y) ∧ I y ∧ μ y < μ x) ∨ ∃ z, f x = some (.inr z) ∧ Q z) : ∀ x, I x → ∃ z, limL f x = some z ∧ Q z := by
  have key : ∀ n x, μ x = n → I x → ∃ z, limL f x = some z ∧ Q z := by
    intro n
    induction n using Nat.strongRecOn with
    | _ n ih =>
      intro x hx hI
      rw [limL_eq]
      rcases h x hI with ⟨y, h1, h2, h3⟩ | ⟨z, h1, h2⟩
      · rw [h1]
        exact ih (μ y) (by omega) y rfl h2
      · rw [h1]
        exact ⟨z, rfl, h2⟩
  exact fun x hI => key _ x rfl hI

theorem wi {n : Int} (h0 : -9223372036854775808 ≤ n) (h1 : n < 9223372036854775808) : IntKind.i64.wrap n = n := by
  simp [IntKind.wrap, IntKind.bits, IntKind.signed]
  omega

abbrev It := Int × Int

theorem getD_lt {A : Type} {l : List A} {k : Nat} (d : A) (h : k < l.length) : l.getD k d = l[k] := by simp [List.getD, h]

theorem take_snoc {A : Type} {l : List A} {d : A} {k : Nat} (h : k < l.length) : l.take k ++ [l.getD k d] = l.take (k + 1) := by
  rw [getD_lt d h, List.take_append_getElem h]

end Go.Proofs.Rf
/- Sorted lists of items: the two checks. -/
namespace Go.Proofs.Rf
open Go Classical
/-- The first of two errors. -/
theorem L48_val (a b : Int) : L48 ([a, b], ()) = some ((if a = 0 then b else a, ()), ()) := by
  have s0 : a = 0 → S48_2 (([a, b], 2, 0, ()), ()) = some (.inl (([a, b], 2, 1, ()), ())) := by
    rintro rfl; rw [S48_2_eq]; rfl
  have s0' : a ≠ 0 → S48_2 (([a, b], 2, 0, ()), ()) = some (.inr (.inl ((a, ()), ()))) := by
    intro h; rw [S48_2_eq]; simp [h]
  have s1 : b = 0 → S48_2 (([a, b], 2, 1, ()), ()) = some (.inl (([a, b], 2, 2, ()), ())) := by
    rintro rfl; rw [S48_2_eq]; rfl
  have s1' : b ≠ 0 → S48_2 (([a, b], 2, 1, ()), ()) = some (.inr (.inl ((b, ()), ()))) := by
    intro h; rw [S48_2_eq]; simp [h]
  have s2 : S48_2 (([a, b], 2, 2, ()), ()) = some (.inr (.inr ((), ()))) := by rw [S48_2_eq]; rfl
  show F48 Lg48_2 _ = _
  rw [F48_eq]
  show (limL S48_2 (([a, b], 2, 0, ()), ())).bind _ = _
  by_cases ha : a = 0
  · rw [limL_eq, s0 ha, if_pos ha]
    simp only
    by_cases hb : b = 0
    · rw [limL_eq, s1 hb]
      simp only
      rw [limL_eq, s2, hb]
      rfl
    · rw [limL_eq, s1' hb]
      rfl
  · rw [limL_eq, s0' ha, if_neg ha]
    rfl
end Go.Proofs.Rf
/- Insertion, merging: the plain law of merges. -/
namespace Go.Proofs.Rf
open Go

def insL (x : It) : List It → List It
  | [] => [x]
  | y :: l => if x.1 < y.1 then x :: y :: l else y :: insL x l

def isort (l : List It) : List It := l.foldl (fun out x => insL x out) []

abbrev Up (l : List It) : Prop := l.Pairwise fun a b => a.1 ≤ b.1

theorem insL_length (x : It) : ∀ l, (insL x l).length = l.length + 1
  | [] => rfl
  | y :: l => by
    unfold insL
    split
    · rfl
    · simp [insL_length x l]

theorem insL_mem (x z : It) : ∀ l, z ∈ insL x l → z = x ∨ z ∈ l
  | [], h => by simpa [insL] using h
  | y :: l, h => by
    unfold insL at h
    split at h
    · simpa using h
    · rcases List.mem_cons.1 h with h | h
      · exact .inr (by simp [h])
      · rcases insL_mem x z l h with h | h
        · exact .inl h
        · exact .inr (by simp [h])

theorem insL_up (x : It) : ∀ l, Up l → Up (insL x l)
  | [], _ => by simp [insL, Up]
  | y :: l, h => by
    have h1 := List.pairwise_cons.1 h
    unfold insL
    split
    · rename_i hx
      refine List.pairwise_cons.2 ⟨fun z hz => ?_, h⟩
      rcases List.mem_cons.1 hz with e | hz
      · rw [e]; omega
      · have := h1.1 z hz; omega
    · rename_i hx
      refine List.pairwise_cons.2 ⟨fun z hz => ?_, insL_up x l h1.2⟩
      rcases insL_mem x z l hz with e | hz
      · rw [e]; omega
      · exact h1.1 z hz

theorem isort_snoc (l : List It) (x : It) : isort (l ++ [x]) = insL x (isort l) := by simp [isort]

theorem foldl_up : ∀ (l : List It) (out : List It), Up out → Up (l.foldl (fun out x => insL x out) out)
  | [], _, h => h
  | x :: l, out, h => foldl_up l _ (insL_up x out h)

theorem isort_up (l : List It) : Up (isort l) := foldl_up l [] List.Pairwise.nil

theorem foldl_length : ∀ (l : List It) (out : List It), (l.foldl (fun out x => insL x out) out).length = out.length + l.length
  | [], _ => rfl
  | x :: l, out => by
    rw [List.foldl_cons, foldl_length l, insL_length, List.length_cons]
    omega

theorem isort_length (l : List It) : (isort l).length = l.length := by
  unfold isort
  rw [foldl_length]
  simp

/-- Where an item is put. -/
theorem insL_at (x : It) : ∀ (out : List It) (k : Nat), Up out → k ≤ out.length → (∀ j, k ≤ j → j < out.length → x.1 < (out.getD j (0, 0)).1) → (∀ j, j + 1 = k → ¬ x.1 < (out.getD j (0, 0)).1) → insL x out = out.take k ++ x :: out.drop k
  | [], k, _, hk, _, _ => by
    have : k = 0 := by simpa using hk
    subst this
    rfl
  | y :: o, 0, _, _, h, _ => by
    have := h 0 (by omega) (by simp)
    unfold insL
    rw [if_pos (by simpa using this)]
    rfl
  | y :: o, k + 1, hu, hk, h, h2 => by
    have h1 := List.pairwise_cons.1 hu
    have hk' : k ≤ o.length := by simpa using hk
    have hx : ¬ x.1 < y.1 := by
      have h3 := h2 k rfl
      cases k with
      | zero => simpa using h3
      | succ j =>
        have hj : j < o.length := by omega
        have h4 : ((y :: o).getD (j + 1) (0, 0)) = o[j] := by simp [List.getD, hj]
        rw [h4] at h3
        have := h1.1 o[j] (List.getElem_mem hj)
        omega
    unfold insL
    rw [if_neg hx, insL_at x o k h1.2 hk' (fun j hj hl => by simpa using h (j + 1) (by omega) (by simpa using hl)) (fun j hj => by
      have := h2 (j + 1) (by omega)
      simpa using this)]
    rfl

theorem insL_end (x : It) : ∀ (out : List It), (∀ y ∈ out, ¬ x.1 < y.1) → insL x out = out ++ [x]
  | [], _ => rfl
  | y :: o, h => by
    unfold insL
    rw [if_neg (h y (by simp)), insL_end x o fun z hz => h z (by simp [hz])]
    rfl

theorem foldl_sorted : ∀ (l out : List It), Up (out ++ l) → l.foldl (fun out x => insL x out) out = out ++ l
  | [], out, _ => by simp
  | x :: l, out, h => by
    rw [List.foldl_cons, insL_end x out fun y hy => by
      have := (List.pairwise_append.1 h).2.2 y hy x (by simp)
      omega]
    rw [foldl_sorted l (out ++ [x]) (by simpa using h)]
    simp

theorem isort_sorted {l : List It} (h : Up l) : isort l = l := foldl_sorted l [] (by simpa using h)

/-- A place is made, and filled. -/
theorem shift {out : List It} {d x : It} {k n : Nat} (hn : n = out.length) (hk : k ≤ n) :
    (List.take (k + 1) (out ++ [d]) ++ List.take (n + 1 - (k + 1)) (List.take (n + 1 - k) (List.drop k (out ++ [d]))) ++ List.drop (k + 1 + min (List.take (n + 1 - k) (List.drop k (out ++ [d]))).length (n + 1 - (k + 1))) (out ++ [d])).set k x = out.take k ++ x :: out.drop k := by
  subst hn
  have e1 : List.drop k (out ++ [d]) = out.drop k ++ [d] := List.drop_append_of_le_length hk
  have e2 : List.take (out.length + 1 - k) (out.drop k ++ [d]) = out.drop k ++ [d] := List.take_of_length_le (by simp; omega)
  have e3 : List.take (out.length + 1 - (k + 1)) (out.drop k ++ [d]) = out.drop k := by
    rw [List.take_append_of_le_length (by simp), List.take_of_length_le (by simp)]
  have e4 : List.take (k + 1) (out ++ [d]) = out.take k ++ [(out ++ [d]).getD k d] := by
    rw [← take_snoc (d := d) (by simp; omega), List.take_append_of_le_length hk]
  have e5 : List.drop (k + 1 + min (out.drop k ++ [d]).length (out.length + 1 - (k + 1))) (out ++ [d]) = [] := List.drop_of_length_le (by simp; omega)
  rw [e1, e2, e3, e4, e5, List.append_nil, List.append_assoc, List.set_append_right _ _ (by simp; omega)]
  simp [Nat.min_eq_left hk]
end Go.Proofs.Rf
/- Heaps in lists: sinking and rising. -/
namespace Go.Proofs.Rf
section
variable {A : Type} (w : A → Int) (d : A)

def swp (l : List A) (i j : Nat) : List A := (l.set i (l.getD j d)).set j (l.getD i d)

theorem swp_length (l : List A) (i j : Nat) : (swp d l i j).length = l.length := by simp [swp]

theorem swp_getD (l : List A) {i j : Nat} (hi : i < l.length) (hj : j < l.length) (k : Nat) :
    (swp d l i j).getD k d = if k = j then l.getD i d else if k = i then l.getD j d else l.getD k d := by
  unfold swp
  simp only [List.getD_eq_getElem?_getD, List.getElem?_set, List.length_set]
  by_cases h1 : k = j
  · subst h1; simp [hj]
  · rw [if_neg (fun h => h1 h.symm), if_neg h1]
    by_cases h2 : k = i
    · subst h2; simp [hi]
    · rw [if_neg (fun h => h2 h.symm), if_neg h2]

theorem swp_perm (l : List A) {i j : Nat} (hi : i < l.length) (hj : j < l.length) : (swp d l i j).Perm l := by
  have h := List.set_set_perm hi hj
  have e1 : l.getD j d = l[j] := by simp [List.getD, hj]
  have e2 : l.getD i d = l[i] := by simp [List.getD, hi]
  unfold swp
  rw [e1, e2]
  exact h

def gw (l : List A) (i : Nat) : Int := w (l.getD i d)

theorem swp_gw (l : List A) {i j : Nat} (hi : i < l.length) (hj : j < l.length) (k : Nat) :
    gw w d (swp d l i j) k = if k = j then gw w d l i else if k = i then gw w d l j else gw w d l k := by
  unfold gw
  rw [swp_getD d l hi hj]
  split
  · rfl
  · split <;> rfl

/-- All edges among the first n places whose upper end is at s or beyond. -/
def Hp (l : List A) (n s : Nat) : Prop := ∀ i, 0 < i → i < n → s ≤ (i - 1) / 2 → gw w d l ((i - 1) / 2) ≤ gw w d l i

/-- All edges but those down from `a`. -/
def Dn (l : List A) (n s a : Nat) : Prop :=
  (∀ i, 0 < i → i < n → s ≤ (i - 1) / 2 → (i - 1) / 2 ≠ a → gw w d l ((i - 1) / 2) ≤ gw w d l i) ∧
  (0 < a → s ≤ (a - 1) / 2 → ∀ i, 0 < i → i < n → (i - 1) / 2 = a → gw w d l ((a - 1) / 2) ≤ gw w d l i)

/-- All edges but that up from `a`. -/
def Us (l : List A) (n a : Nat) : Prop :=
  (∀ i, 0 < i → i < n → i ≠ a → gw w d l ((i - 1) / 2) ≤ gw w d l i) ∧
  (0 < a → ∀ i, 0 < i → i < n → (i - 1) / 2 = a → gw w d l ((a - 1) / 2) ≤ gw w d l i)

theorem Dn.done {l : List A} {n s a : Nat} (h : Dn w d l n s a) (hk : ∀ i, 0 < i → i < n → (i - 1) / 2 = a → gw w d l a ≤ gw w d l i) : Hp w d l n s := by
  intro i h0 hn hs
  by_cases e : (i - 1) / 2 = a
  · rw [e]; exact hk i h0 hn e
  · exact h.1 i h0 hn hs e

theorem Dn.step {l : List A} {n s a t : Nat} (hl : n ≤ l.length) (h : Dn w d l n s a) (hsa : s ≤ a) (ht0 : 0 < t) (htn : t < n) (hta : (t - 1) / 2 = a)
    (hlt : gw w d l t < gw w d l a) (hk : ∀ i, 0 < i → i < n → (i - 1) / 2 = a → gw w d l t ≤ gw w d l i) : Dn w d (swp d l a t) n s t := by
  have hat : a < t := by omega
  have e := swp_gw w d l (i := a) (j := t) (by omega) (by omega)
  refine ⟨fun i h0 hn hs hp => ?_, fun _ hs i h0 hn hi => ?_⟩
  · by_cases h1 : i = t
    · subst h1
      rw [hta, e a, e i, if_neg (by omega), if_pos rfl, if_pos rfl]
      omega
    · by_cases h2 : (i - 1) / 2 = a
      · rw [h2, e a, e i, if_neg (by omega), if_pos rfl, if_neg h1, if_neg (by omega)]
        exact hk i h0 hn h2
      · by_cases h3 : i = a
        · subst h3
          rw [e _, e i, if_neg hp, if_neg h2, if_neg (by omega), if_pos rfl]
          exact h.2 h0 hs t ht0 htn hta
        · rw [e _, e i, if_neg hp, if_neg h2, if_neg h1, if_neg h3]
          exact h.1 i h0 hn hs h2
  · rw [hta, e a, e i, if_neg (by omega), if_pos rfl, if_neg (by omega), if_neg (by omega)]
    have := h.1 i h0 hn (by omega) (by omega)
    rw [hi] at this
    exact this

theorem Us.done {l : List A} {n a : Nat} (h : Us w d l n a) (hk : a = 0 ∨ gw w d l ((a - 1) / 2) ≤ gw w d l a) : Hp w d l n 0 := by
  intro i h0 hn _
  by_cases e : i = a
  · subst e
    rcases hk with hk | hk
    · omega
    · exact hk
  · exact h.1 i h0 hn e

theorem Us.step {l : List A} {n a : Nat} (hl : n ≤ l.length) (h : Us w d l n a) (ha0 : 0 < a) (han : a < n) (hlt : gw w d l a < gw w d l ((a - 1) / 2)) : Us w d (swp d l a ((a - 1) / 2)) n ((a - 1) / 2) := by
  have hpa : (a - 1) / 2 < a := by omega
  have e := swp_gw w d l (i := a) (j := (a - 1) / 2) (by omega) (by omega)
  generalize hp : (a - 1) / 2 = p at *
  refine ⟨fun i h0 hn hip => ?_, fun hp0 i h0 hn hi => ?_⟩
  · rw [e _, e i, if_neg hip]
    by_cases h1 : i = a
    · subst h1
      rw [hp, if_pos rfl, if_pos rfl]
      omega
    · rw [if_neg h1]
      have h4 := h.1 i h0 hn h1
      by_cases h2 : (i - 1) / 2 = p
      · rw [if_pos h2]
        rw [h2] at h4
        omega
      · rw [if_neg h2]
        by_cases h3 : (i - 1) / 2 = a
        · rw [if_pos h3]
          have h5 := h.2 ha0 i h0 hn h3
          rw [hp] at h5
          exact h5
        · rw [if_neg h3]; exact h4
  · rw [e _, e i, if_neg (by omega), if_neg (by omega), if_neg (by omega)]
    have h4 := h.1 p hp0 (by omega) (by omega)
    by_cases h1 : i = a
    · subst h1
      rw [if_pos rfl]; exact h4
    · rw [if_neg h1]
      have h5 := h.1 i h0 hn h1
      rw [hi] at h5
      omega

theorem Hp.root {l : List A} {n : Nat} (h : Hp w d l n 0) : ∀ i, i < n → gw w d l 0 ≤ gw w d l i := by
  intro i
  induction i using Nat.strongRecOn with
  | _ i ih =>
    intro hi
    by_cases h0 : i = 0
    · subst h0; omega
    · have h1 := h i (by omega) hi (Nat.zero_le _)
      have h2 := ih ((i - 1) / 2) (by omega) (by omega)
      omega

/-- The kid that is to go up, or the place itself. -/
def top2 (l : List A) (n a : Nat) : Nat :=
  let t := if 2 * a + 1 < n ∧ gw w d l (2 * a + 1) < gw w d l a then 2 * a + 1 else a
  if 2 * a + 2 < n ∧ gw w d l (2 * a + 2) < gw w d l t then 2 * a + 2 else t

theorem top2_cases (l : List A) (n a : Nat) :
    (top2 w d l n a = a ∧ ∀ i, 0 < i → i < n → (i - 1) / 2 = a → gw w d l a ≤ gw w d l i) ∨
    (0 < top2 w d l n a ∧ top2 w d l n a < n ∧ (top2 w d l n a - 1) / 2 = a ∧ gw w d l (top2 w d l n a) < gw w d l a ∧ ∀ i, 0 < i → i < n → (i - 1) / 2 = a → gw w d l (top2 w d l n a) ≤ gw w d l i) := by
  have hk : ∀ i, 0 < i → (i - 1) / 2 = a → i = 2 * a + 1 ∨ i = 2 * a + 2 := fun i h0 h => by omega
  unfold top2
  by_cases h1 : 2 * a + 1 < n ∧ gw w d l (2 * a + 1) < gw w d l a
  · simp only [if_pos h1]
    by_cases h2 : 2 * a + 2 < n ∧ gw w d l (2 * a + 2) < gw w d l (2 * a + 1)
    · simp only [if_pos h2]
      refine .inr ⟨by omega, h2.1, by omega, by omega, fun i h0 hn hi => ?_⟩
      rcases hk i h0 hi with rfl | rfl <;> omega
    · simp only [if_neg h2]
      refine .inr ⟨by omega, h1.1, by omega, by omega, fun i h0 hn hi => ?_⟩
      rcases hk i h0 hi with rfl | rfl
      · omega
      · have : ¬ gw w d l (2 * a + 2) < gw w d l (2 * a + 1) := fun h => h2 ⟨hn, h⟩
        omega
  · simp only [if_neg h1]
    by_cases h2 : 2 * a + 2 < n ∧ gw w d l (2 * a + 2) < gw w d l a
    · simp only [if_pos h2]
      refine .inr ⟨by omega, h2.1, by omega, by omega, fun i h0 hn hi => ?_⟩
      rcases hk i h0 hi with rfl | rfl
      · have : ¬ gw w d l (2 * a + 1) < gw w d l a := fun h => h1 ⟨by omega, h⟩
        omega
      · omega
    · simp only [if_neg h2]
      refine .inl ⟨trivial, fun i h0 hn hi => ?_⟩
      rcases hk i h0 hi with rfl | rfl
      · have : ¬ gw w d l (2 * a + 1) < gw w d l a := fun h => h1 ⟨hn, h⟩
        omega
      · have : ¬ gw w d l (2 * a + 2) < gw w d l a := fun h => h2 ⟨hn, h⟩
        omega
end
end Go.Proofs.Rf
/- Queues: a heap of numbered items against a sorted list. -/
namespace Go.Proofs.Rf
open Go

abbrev En := (Int × Int) × Int
def wE (e : En) : Int := e.1.1 * 18446744073709551616 + e.2
abbrev dE : En := ((0, 0), 0)

def insW (x : En) : List En → List En
  | [] => [x]
  | y :: l => if wE x < wE y then x :: y :: l else y :: insW x l

theorem insW_perm (x : En) : ∀ l, (insW x l).Perm (x :: l)
  | [] => List.Perm.refl _
  | y :: l => by
    unfold insW
    split
    · exact List.Perm.refl _
    · exact ((insW_perm x l).cons y).trans (List.Perm.swap x y l)

theorem insW_sorted (x : En) : ∀ l, l.Pairwise (fun a b => wE a < wE b) → (∀ y ∈ l, wE x ≠ wE y) → (insW x l).Pairwise (fun a b => wE a < wE b)
  | [], _, _ => by simp [insW]
  | y :: l, h, hne => by
    have h1 := List.pairwise_cons.1 h
    unfold insW
    split
    · rename_i hx
      refine List.pairwise_cons.2 ⟨fun z hz => ?_, h⟩
      rcases List.mem_cons.1 hz with e | hz
      · rw [e]; exact hx
      · have := h1.1 z hz; omega
    · rename_i hx
      refine List.pairwise_cons.2 ⟨fun z hz => ?_, insW_sorted x l h1.2 fun z hz => hne z (by simp [hz])⟩
      have := hne y (by simp)
      rcases List.mem_cons.1 ((insW_perm x l).mem_iff.1 hz) with e | hz
      · rw [e]; omega
      · exact h1.1 z hz

theorem insW_map (x : It) (p : Int) : ∀ l : List En, (∀ y ∈ l, 0 ≤ y.2 ∧ y.2 < p) → p < 18446744073709551616 → (insW (x, p) l).map (·.1) = insL x (l.map (·.1))
  | [], _, _ => rfl
  | y :: l, h, hp => by
    have hy := h y (by simp)
    unfold insW
    rw [List.map_cons]
    unfold insL
    by_cases hx : x.1 < y.1.1
    · have : wE (x, p) < wE y := by unfold wE; simp only; omega
      rw [if_pos this, if_pos hx]
      rfl
    · have : ¬ wE (x, p) < wE y := by unfold wE; simp only; omega
      rw [if_neg this, if_neg hx, List.map_cons, insW_map x p l (fun z hz => h z (by simp [hz])) hp]

/-- The heap holds the items of the sorted list. -/
def QR (h : List En) (p : Int) (r : List It) : Prop :=
  ∃ es : List En, es.map (·.1) = r ∧ es.Perm h ∧ es.Pairwise (fun a b => wE a < wE b) ∧ (∀ e ∈ es, 0 ≤ e.2 ∧ e.2 < p) ∧ Hp wE dE h h.length 0

theorem QR.nil : QR [] 0 [] := ⟨[], rfl, List.Perm.refl _, List.Pairwise.nil, by simp, fun i _ h => absurd h (by simp)⟩

theorem QR.length {h : List En} {p : Int} {r : List It} (q : QR h p r) : r.length = h.length := by
  obtain ⟨es, rfl, e2, _⟩ := q
  rw [List.length_map, e2.length_eq]

theorem QR.up {h : List En} {p : Int} {r : List It} (q : QR h p r) (hp : p < 18446744073709551616) : Up r := by
  obtain ⟨es, rfl, _, e3, e4, _⟩ := q
  refine List.pairwise_map.2 (e3.imp_of_mem fun {a b} ha hb hab => ?_)
  have h1 := e4 a ha
  have h2 := e4 b hb
  unfold wE at hab
  omega

theorem QR.push {h h' : List En} {p : Int} {r : List It} {x : It} (q : QR h p r) (hp0 : 0 ≤ p) (hp : p < 18446744073709551616) (hperm : h'.Perm (h ++ [(x, p)])) (hh : Hp wE dE h' h'.length 0) : QR h' (p + 1) (insL x r) := by
  obtain ⟨es, rfl, e2, e3, e4, _⟩ := q
  refine ⟨insW (x, p) es, insW_map x p es e4 hp, ?_, insW_sorted _ _ e3 fun y hy => ?_, fun e he => ?_, hh⟩
  · refine (insW_perm _ _).trans (List.Perm.trans ?_ hperm.symm)
    exact ((e2.cons (x, p)).trans (List.perm_append_singleton (x, p) h).symm)
  · have := e4 y hy
    unfold wE
    simp only
    omega
  · rcases List.mem_cons.1 ((insW_perm _ _).mem_iff.1 he) with rfl | he
    · simp only; omega
    · have := e4 e he; omega

theorem swap_last {A : Type} (a : A) (t : List A) (d : A) : (a :: t).Perm (a :: ((a :: t).set 0 ((a :: t).getD t.length d)).take t.length) := by
  refine List.Perm.cons a ?_
  rw [List.set_cons_zero]
  cases t with
  | nil => exact List.Perm.refl _
  | cons b t =>
    have hne : b :: t ≠ [] := by simp
    have e1 : (a :: b :: t).getD (b :: t).length d = (b :: t).getLast hne := by
      simp [List.getD, List.getLast_eq_getElem]
    rw [e1, List.length_cons, List.take_succ_cons]
    have e2 : (b :: t).take t.length = (b :: t).dropLast := by rw [List.dropLast_eq_take]; simp
    rw [e2]
    have e3 := List.dropLast_concat_getLast hne
    refine List.Perm.trans ?_ (List.perm_append_singleton _ _)
    rw [e3]

theorem QR.root {a : En} {t : List En} {p : Int} {r : List It} (q : QR (a :: t) p r) : ∃ r', r = a.1 :: r' ∧ ∀ h', h'.Perm t → Hp wE dE h' h'.length 0 → QR h' p r' := by
  obtain ⟨es, rfl, e2, e3, e4, e5⟩ := q
  cases es with
  | nil => have := e2.length_eq; simp at this
  | cons e es =>
    have h1 := List.pairwise_cons.1 e3
    have hle : wE a ≤ wE e := by
      have hm : e ∈ a :: t := e2.mem_iff.1 (by simp)
      obtain ⟨i, hi, rfl⟩ := List.mem_iff_getElem.1 hm
      have := e5.root _ _ i hi
      unfold gw at this
      simp only [List.getD_eq_getElem?_getD] at this
      rw [List.getElem?_eq_getElem hi] at this
      simpa using this
    have hea : a = e := by
      rcases List.mem_cons.1 (e2.mem_iff.2 (List.mem_cons_self (a := a))) with h | h
      · exact h
      · have := h1.1 a h; omega
    subst hea
    refine ⟨es.map (·.1), rfl, fun h' hp hh => ⟨es, rfl, ((List.perm_cons a).1 e2).trans hp.symm, h1.2, fun z hz => e4 z (by simp [hz]), hh⟩⟩
end Go.Proofs.Rf
/- What the queue's functions come to. -/
namespace Go.Proofs.Rf
open Go

def rgE (x : En) : Prop := 0 ≤ x.2 ∧ x.2 < 18446744073709551616

theorem L123_val (x y : En) : L123 (x, y, ()) = some ((decide (x.1.1 < y.1.1), ()), ()) := F123_eq x.1.1 x.1.2 x.2 y.1.1 y.1.2 y.2
theorem L124_val (x y : En) : L124 (x, y, ()) = some ((decide (x.2 < y.2), ()), ()) := F124_eq x.1.1 x.1.2 x.2 y.1.1 y.1.2 y.2

theorem L50_val (x y : En) (hx : rgE x) (hy : rgE y) : L50 (x, y, ()) = some ((decide (wE x < wE y), ()), ()) := by
  obtain ⟨⟨a, b⟩, c⟩ := x
  obtain ⟨⟨d, e⟩, f⟩ := y
  have hx := hx
  have hy := hy
  unfold rgE at hx hy
  simp only at hx hy
  show F50 Lg50_2 (((a, b), c), ((d, e), f), ()) = _
  rw [F50_eq]
  have key : Lg50_2 (((), (), ((), ()), 0, ()), (a, b, c, ()), (d, e, f, ()), ()) = some (if wE ((a, b), c) < wE ((d, e), f) then .inl ((true, ()), ()) else if wE ((d, e), f) < wE ((a, b), c) then .inl ((false, ()), ()) else .inr ((), ())) := by
    show limL (S50_2 L123 L124) _ = _
    rw [limL_eq, S50_2_eq, L123_val, L123_val]
    simp only [Option.bind_some]
    rw [if_pos (by decide), if_pos (by decide)]
    by_cases h1 : a < d
    · have : wE ((a, b), c) < wE ((d, e), f) := by unfold wE; simp only; omega
      rw [if_pos (by simpa using h1), if_pos this]
      simp [h1]
    · rw [if_neg (by simpa using h1)]
      by_cases h2 : d < a
      · have h3 : wE ((d, e), f) < wE ((a, b), c) := by unfold wE; simp only; omega
        have h4 : ¬ wE ((a, b), c) < wE ((d, e), f) := by omega
        rw [if_pos (by simpa using h2), if_neg h4, if_pos h3]
        simp [h1]
      · have h0 : a = d := by omega
        subst h0
        rw [if_neg (by simp)]
        simp only
        rw [show IntKind.i64.wrap ((0 : Int) + 1) = 1 by rfl, limL_eq, S50_2_eq, L124_val, L124_val]
        simp only [Option.bind_some]
        rw [if_pos (by decide), if_neg (by decide), if_pos (by decide)]
        by_cases h3 : c < f
        · have : wE ((a, b), c) < wE ((a, e), f) := by unfold wE; simp only; omega
          rw [if_pos (by simpa using h3), if_pos this]
          simp [h3]
        · rw [if_neg (by simpa using h3)]
          by_cases h5 : f < c
          · have h3' : wE ((a, e), f) < wE ((a, b), c) := by unfold wE; simp only; omega
            have h4 : ¬ wE ((a, b), c) < wE ((a, e), f) := by omega
            rw [if_pos (by simpa using h5), if_neg h4, if_pos h3']
            simp [h3]
          · rw [if_neg (by simpa using h5)]
            have h6 : ¬ wE ((a, e), f) < wE ((a, b), c) := by unfold wE; simp only; omega
            have h4 : ¬ wE ((a, b), c) < wE ((a, e), f) := by unfold wE; simp only; omega
            rw [if_neg h4, if_neg h6]
            simp only
            rw [show IntKind.i64.wrap ((1 : Int) + 1) = 2 by rfl, limL_eq, S50_2_eq, if_neg (by decide)]
  rw [key]
  simp only [Option.bind_some]
  by_cases h1 : wE ((a, b), c) < wE ((d, e), f)
  · rw [if_pos h1]; simp [h1]
  · rw [if_neg h1]
    by_cases h2 : wE ((d, e), f) < wE ((a, b), c)
    · rw [if_pos h2]; simp [h1]
    · rw [if_neg h2]; simp [h1]

theorem rg_getD {l : List En} (h : ∀ e ∈ l, rgE e) (k : Nat) : rgE (l.getD k dE) := by
  rw [List.getD_eq_getElem?_getD]
  by_cases hk : k < l.length
  · rw [List.getElem?_eq_getElem hk]
    exact h _ (List.getElem_mem hk)
  · rw [List.getElem?_eq_none (by omega)]
    exact ⟨by decide, by decide⟩

theorem wup {a : Nat} (h : 0 < a) (h2 : a ≤ 100000) : IntKind.i64.wrap ((IntKind.i64.wrap ((a : Int) - 1)).tdiv 2) = (((a - 1) / 2 : Nat) : Int) := by
  rw [wi (n := (a : Int) - 1) (by omega) (by omega), Int.tdiv_eq_ediv_of_nonneg (by omega), wi (by omega) (by omega)]
  omega

theorem S13q_7_step (x : It) (p : Int) (l : List En) (a : Nat) (h0 : 0 < a) (ha : a < l.length) (hl : l.length ≤ 10000) (hr : ∀ e ∈ l, rgE e) :
    S13q_7 L50 (((), x, (a : Int), ()), (((), p, ()), l, ())) = if wE (l.getD a dE) < wE (l.getD ((a - 1) / 2) dE) then some (.inl (((), x, (((a - 1) / 2 : Nat) : Int), ()), ((), p, ()), swp dE l a ((a - 1) / 2), ())) else some (.inr (((), x, ()), ((), p, ()), l, ())) := by
  refine (S13q_7_eq L50 x.1 x.2 (a : Int) p l).trans ?_
  have hp : (a - 1) / 2 < l.length := by omega
  have e := wup h0 (by omega)
  have hL := L50_val (((l.getD a ((0, 0), 0)).1.1, (l.getD a ((0, 0), 0)).1.2), (l.getD a ((0, 0), 0)).2) (((l.getD ((a - 1) / 2) ((0, 0), 0)).1.1, (l.getD ((a - 1) / 2) ((0, 0), 0)).1.2), (l.getD ((a - 1) / 2) ((0, 0), 0)).2) (rg_getD hr _) (rg_getD hr _)
  simp only [e, Int.toNat_natCast, hL, Option.bind_some, List.length_set]
  generalize (a - 1) / 2 = q at *
  have c1 : (0 : Int) ≤ (a : Int) := by omega
  have c2 : (a : Int) < (l.length : Int) := by omega
  have c3 : (0 : Int) ≤ (q : Int) := by omega
  have c4 : (q : Int) < (l.length : Int) := by omega
  have c5 : decide ((a : Int) > 0) = true := by simpa using h0
  rw [if_pos c5]
  simp only [if_pos c1, if_pos c2, if_pos c3, if_pos c4]
  by_cases hw : wE (l.getD a dE) < wE (l.getD q dE)
  · rw [if_pos hw, if_pos (decide_eq_true hw)]
    rfl
  · rw [if_neg hw, if_neg (by simpa using hw)]

theorem S13q_7_zero (x : It) (p : Int) (l : List En) : S13q_7 L50 (((), x, 0, ()), (((), p, ()), l, ())) = some (.inr (((), x, ()), ((), p, ()), l, ())) :=
  (S13q_7_eq L50 x.1 x.2 0 p l).trans (if_neg (by decide))

theorem Lg13q_7_val (x : It) (p : Int) (l : List En) (a : Nat) (ha : a < l.length) (hl : l.length ≤ 10000) (hr : ∀ e ∈ l, rgE e) (hu : Us wE dE l l.length a) :
    ∃ l', Lg13q_7 (((), x, (a : Int), ()), (((), p, ()), l, ())) = some (((), x, ()), ((), p, ()), l', ()) ∧ l'.Perm l ∧ Hp wE dE l' l'.length 0 := by
  obtain ⟨z, h1, l', h2, h3, h4⟩ := limL_ind (f := S13q_7 L50) (fun s => s.1.2.2.1.toNat)
    (fun s => ∃ (a' : Nat) (l' : List En), s = (((), x, (a' : Int), ()), (((), p, ()), l', ())) ∧ l'.Perm l ∧ a' < l'.length ∧ Us wE dE l' l'.length a')
    (fun z => ∃ l', z = (((), x, ()), ((), p, ()), l', ()) ∧ l'.Perm l ∧ Hp wE dE l' l'.length 0) (by
    rintro s ⟨a', l', rfl, hp, hlt, hu⟩
    have hn := hp.length_eq
    by_cases h0 : a' = 0
    · subst h0
      exact .inr ⟨_, S13q_7_zero x p l', l', rfl, hp, hu.done _ _ (.inl rfl)⟩
    · have hst := S13q_7_step x p l' a' (by omega) hlt (by omega) fun e he => hr e (hp.mem_iff.1 he)
      by_cases hw : wE (l'.getD a' dE) < wE (l'.getD ((a' - 1) / 2) dE)
      · rw [if_pos hw] at hst
        refine .inl ⟨_, hst, ⟨_, _, rfl, (swp_perm dE l' hlt (by omega)).trans hp, by rw [swp_length]; omega, ?_⟩, ?_⟩
        · rw [swp_length]
          exact hu.step _ _ (Nat.le_refl _) (by omega) hlt hw
        · show (((a' - 1) / 2 : Nat) : Int).toNat < (a' : Int).toNat
          omega
      · rw [if_neg hw] at hst
        exact .inr ⟨_, hst, l', rfl, hp, hu.done _ _ (.inr (by unfold gw; omega))⟩) (((), x, (a : Int), ()), (((), p, ()), l, ())) ⟨a, l, rfl, List.Perm.refl _, ha, hu⟩
  exact ⟨l', h1.trans (congrArg some h2), h3, h4⟩
end Go.Proofs.Rf
/- What the queue's functions come to: pushing, popping. -/
namespace Go.Proofs.Rf
open Go

theorem L19q_val (p : Int) (l : List En) : L19q (((), ()), (((), p, ()), l, ())) = some (((), (l.length : Int), ()), ((), p, ()), l, ()) := F19q_eq p l
theorem L49_val (b : Bool) (e : Int) : L49 (b, e, ()) = some ((if b = true then e else 0, ()), ()) := by
  show F49 _ = _
  rw [F49_eq]
  split <;> rfl

theorem gw_append {l r : List En} {i : Nat} (h : i < l.length) : gw wE dE (l ++ r) i = gw wE dE l i := by
  unfold gw
  rw [List.getD_eq_getElem?_getD, List.getElem?_append_left h, ← List.getD_eq_getElem?_getD]

theorem L13q_val (x : It) (p : Int) (l : List En) (hl : l.length < 9999) (hp : 0 ≤ p ∧ p < 1099511627776) (hh : Hp wE dE l l.length 0) (hr : ∀ e ∈ l, rgE e) :
    ∃ l', L13q (((), x, ()), (((), p, ()), l, ())) = some (((), x, 0, ()), ((), p + 1, ()), l', ()) ∧ l'.Perm (l ++ [(x, p)]) ∧ Hp wE dE l' l'.length 0 := by
  have hu : Us wE dE (l ++ [(x, p)]) (l ++ [(x, p)]).length l.length := by
    rw [List.length_append, List.length_singleton]
    refine ⟨fun i h0 hn hne => ?_, fun _ i h0 hn hi => by omega⟩
    rw [gw_append (by omega), gw_append (by omega)]
    exact hh i h0 (by omega) (Nat.zero_le _)
  obtain ⟨l', h1, h2, h3⟩ := Lg13q_7_val x (p + 1) (l ++ [(x, p)]) l.length (by simp) (by simp; omega) (fun e he => by
    rcases List.mem_append.1 he with he | he
    · exact hr e he
    · rw [List.mem_singleton.1 he]
      exact ⟨hp.1, by simp only; omega⟩) hu
  refine ⟨l', ?_, h2, h3⟩
  refine (F13q_eq L19q L48 L49 Lg13q_7 x.1 x.2 p l).trans ?_
  have e1 : decide ((l.length : Int) ≥ 10000) = false := decide_eq_false (by omega)
  have e2 : IntKind.i64.wrap (p + 1) = p + 1 := wi (by omega) (by omega)
  have e3 : IntKind.i64.wrap (((l ++ [(x, p)]).length : Int) - 1) = (l.length : Int) := by
    rw [List.length_append, List.length_singleton, wi (by omega) (by omega)]
    omega
  have e4 : l.length + [((x.1, x.2), p)].length ≤ 4294967296 := by rw [List.length_singleton]; omega
  rw [L49_val, Option.bind_some, L19q_val, Option.bind_some, L49_val, Option.bind_some]
  simp only [e1]
  rw [L48_val, Option.bind_some, if_neg (by simp), if_pos e4, e2]
  have e3' : IntKind.i64.wrap (((l ++ [((x.1, x.2), p)]).length : Int) - 1) = (l.length : Int) := e3
  rw [e3']
  have h1' : Lg13q_7 (((), (x.1, x.2), (l.length : Int), ()), (((), p + 1, ()), l ++ [((x.1, x.2), p)], ())) = _ := h1
  rw [h1']
  rfl

theorem L13n_val (x : It) : L13n (((), x, ()), ()) = some (((), x, 30, ()), ()) := by
  refine (F13n_eq L19n L48 L49 x.1 x.2).trans ?_
  rw [L49_val, Option.bind_some, show L19n (((), ()), ()) = _ from F19n_eq, Option.bind_some, L49_val, Option.bind_some, L48_val, Option.bind_some]
  rfl

theorem L17q_val (p : Int) (l : List En) : L17q (((), ()), (((), p, ()), l, ())) = some (((), (l.getD 0 dE).1, if l.length = 0 then 10 else 0, ()), ((), p, ()), l, ()) := by
  refine (F17q_eq L19q p l).trans ?_
  rw [L19q_val, Option.bind_some]
  by_cases h : l.length = 0
  · have := List.length_eq_zero_iff.1 h
    subst this
    rfl
  · rw [if_neg (by simpa using h), if_neg h, if_pos (by simp only; omega)]
    rfl

theorem S15q_12_step (p b0 b1 c0 c1 : Int) (l : List En) (a top k : Nat) (hk : k < 2) (ht : top < 2 * a + 1 + k) (ha : a < 20000) (hr : ∀ e ∈ l, rgE e) :
    S15q_12 L50 (((), (), (), (l.length : Int), (a : Int), (top : Int), (k : Int), ()), (((), p, ()), (b0, b1, ()), (c0, c1, ()), l, ())) =
      some (.inl (((), (), (), (l.length : Int), (a : Int), ((if 2 * a + 1 + k < l.length ∧ gw wE dE l (2 * a + 1 + k) < gw wE dE l top then 2 * a + 1 + k else top : Nat) : Int), ((k + 1 : Nat) : Int), ()), (((), p, ()), (b0, b1, ()), (c0, c1, ()), l, ()))) := by
  refine (S15q_12_eq L50 _ _ _ _ _ _ _ _ _ _).trans ?_
  have e1 : IntKind.i64.wrap (IntKind.i64.wrap (IntKind.i64.wrap (2 * (a : Int)) + 1) + (k : Int)) = ((2 * a + 1 + k : Nat) : Int) := by
    rw [wi (n := 2 * (a : Int)) (by omega) (by omega), wi (n := 2 * (a : Int) + 1) (by omega) (by omega), wi (by omega) (by omega)]
    omega
  have e2 : IntKind.i64.wrap ((k : Int) + 1) = ((k + 1 : Nat) : Int) := wi (by omega) (by omega)
  rw [if_pos (by simp; omega)]
  simp only [e1, e2, Int.toNat_natCast]
  generalize 2 * a + 1 + k = kid at *
  by_cases h : kid < l.length
  · rw [if_pos (by simp; omega), if_pos (by omega), if_pos (by omega), if_pos (by omega), if_pos (by omega)]
    rw [L50_val _ _ (rg_getD hr _) (rg_getD hr _), Option.bind_some]
    by_cases hw : gw wE dE l kid < gw wE dE l top
    · refine (if_pos (decide_eq_true hw)).trans ?_
      rw [if_pos ⟨h, hw⟩]
    · have hw' : ¬ wE (l.getD kid dE) < wE (l.getD top dE) := hw
      refine (if_neg (by simpa using hw')).trans ?_
      rw [if_neg (fun q => hw q.2)]
  · rw [if_neg (by simp; omega), if_neg (fun q => h q.1)]

theorem Lg15q_12_val (p b0 b1 c0 c1 : Int) (l : List En) (a : Nat) (ha : a < 20000) (hr : ∀ e ∈ l, rgE e) :
    Lg15q_12 (((), (), (), (l.length : Int), (a : Int), (a : Int), 0, ()), (((), p, ()), (b0, b1, ()), (c0, c1, ()), l, ())) =
      some (((), (), (), (l.length : Int), (a : Int), (top2 wE dE l l.length a : Int), ()), (((), p, ()), (b0, b1, ()), (c0, c1, ()), l, ())) := by
  show limL (S15q_12 L50) _ = _
  have s0 := S15q_12_step p b0 b1 c0 c1 l a a 0 (by omega) (by omega) ha hr
  have ht : (if 2 * a + 1 + 0 < l.length ∧ gw wE dE l (2 * a + 1 + 0) < gw wE dE l a then 2 * a + 1 + 0 else a) < 2 * a + 1 + 1 := by split <;> omega
  have s1 := S15q_12_step p b0 b1 c0 c1 l a _ 1 (by omega) ht ha hr
  have s2 : ∀ t : Int, S15q_12 L50 (((), (), (), (l.length : Int), (a : Int), t, ((1 + 1 : Nat) : Int), ()), (((), p, ()), (b0, b1, ()), (c0, c1, ()), l, ())) = some (.inr (((), (), (), (l.length : Int), (a : Int), t, ()), (((), p, ()), (b0, b1, ()), (c0, c1, ()), l, ()))) := fun t =>
    (S15q_12_eq L50 _ _ _ _ _ _ _ _ _ _).trans (if_neg (by decide))
  rw [limL_eq]
  rw [show S15q_12 L50 (((), (), (), (l.length : Int), (a : Int), (a : Int), 0, ()), (((), p, ()), (b0, b1, ()), (c0, c1, ()), l, ())) = _ from s0]
  simp only
  rw [limL_eq, s1]
  simp only
  rw [limL_eq, s2]
  rfl

theorem S15q_10_val (p b0 b1 c0 c1 : Int) (l : List En) (a : Nat) (ha : a < 20000) (hl : l.length ≤ 10000) (hr : ∀ e ∈ l, rgE e) :
    S15q_10 Lg15q_12 (((), (), (), (l.length : Int), (a : Int), ()), (((), p, ()), (b0, b1, ()), (c0, c1, ()), l, ())) =
      if top2 wE dE l l.length a = a then some (.inr (((), (), 0, ()), ((), p, ()), (c0, c1, ()), l, ()))
      else some (.inl (((), (), (), (l.length : Int), (top2 wE dE l l.length a : Int), ()), ((), p, ()), (b0, b1, ()), (c0, c1, ()), swp dE l a (top2 wE dE l l.length a), ())) := by
  refine (S15q_10_eq Lg15q_12 _ _ _ _ _ _ _ _).trans ?_
  rw [Lg15q_12_val p b0 b1 c0 c1 l a ha hr, Option.bind_some]
  rcases top2_cases wE dE l l.length a with ⟨h1, _⟩ | ⟨h1, h2, h3, _⟩
  · rw [if_pos h1]
    simp only [h1]
    rw [if_pos (by simp)]
  · generalize top2 wE dE l l.length a = t at *
    rw [if_neg (by omega : ¬ t = a)]
    simp only
    have c1' : ¬ ((t : Int) == (a : Int)) = true := by simp; omega
    have c2 : (0 : Int) ≤ (t : Int) := by omega
    have c3 : (t : Int) < (l.length : Int) := by omega
    have c4 : (0 : Int) ≤ (a : Int) := by omega
    have c5 : (a : Int) < (l.length : Int) := by omega
    simp only [List.length_set, if_neg c1', if_pos c2, if_pos c3, if_pos c4, if_pos c5, Int.toNat_natCast]
    rfl

theorem Lg15q_10_val (p b0 b1 c0 c1 : Int) (l : List En) (hl : l.length ≤ 10000) (hr : ∀ e ∈ l, rgE e) (hd : Dn wE dE l l.length 0 0) :
    ∃ l', Lg15q_10 (((), (), (), (l.length : Int), 0, ()), (((), p, ()), (b0, b1, ()), (c0, c1, ()), l, ())) = some (((), (), 0, ()), ((), p, ()), (c0, c1, ()), l', ()) ∧ l'.Perm l ∧ Hp wE dE l' l'.length 0 := by
  obtain ⟨z, h1, l', h2, h3, h4⟩ := limL_ind (f := S15q_10 Lg15q_12) (fun s => l.length - s.1.2.2.2.2.1.toNat)
    (fun s => ∃ (a : Nat) (l' : List En), s = (((), (), (), (l.length : Int), (a : Int), ()), (((), p, ()), (b0, b1, ()), (c0, c1, ()), l', ())) ∧ l'.Perm l ∧ (a = 0 ∨ a < l.length) ∧ Dn wE dE l' l'.length 0 a)
    (fun z => ∃ l', z = (((), (), 0, ()), ((), p, ()), (c0, c1, ()), l', ()) ∧ l'.Perm l ∧ Hp wE dE l' l'.length 0) (by
    rintro s ⟨a, l', rfl, hp, hlt, hu⟩
    have hn := hp.length_eq
    rw [← hn]
    have hst := S15q_10_val p b0 b1 c0 c1 l' a (by omega) (by omega) (fun e he => hr e (hp.mem_iff.1 he))
    rcases top2_cases wE dE l' l'.length a with ⟨h1, h2⟩ | ⟨h1, h2, h3, h4, h5⟩
    · rw [if_pos h1] at hst
      exact .inr ⟨_, hst, l', rfl, hp, hu.done _ _ h2⟩
    · rw [if_neg (by omega)] at hst
      refine .inl ⟨_, hst, ⟨_, _, rfl, (swp_perm dE l' (by omega) h2).trans hp, .inr h2, ?_⟩, ?_⟩
      · rw [swp_length]
        exact hu.step _ _ (Nat.le_refl _) (Nat.zero_le _) h1 h2 h3 h4 h5
      · show l'.length - (top2 wE dE l' l'.length a : Int).toNat < l'.length - (a : Int).toNat
        omega) (((), (), (), (l.length : Int), ((0 : Nat) : Int), ()), (((), p, ()), (b0, b1, ()), (c0, c1, ()), l, ())) ⟨0, l, rfl, List.Perm.refl _, .inl rfl, hd⟩
  exact ⟨l', h1.trans (congrArg some h2), h3, h4⟩

theorem L15q_nil (p : Int) : L15q (((), ()), (((), p, ()), [], ())) = some (((), (0, 0), 10, ()), ((), p, ()), [], ()) := by
  refine (F15q_eq L17q Lg15q_10 p []).trans ?_
  rw [L17q_val, Option.bind_some]
  rfl

theorem L15q_cons (p : Int) (a : En) (t : List En) (hl : t.length < 9999) (hh : Hp wE dE (a :: t) (a :: t).length 0) (hr : ∀ e ∈ a :: t, rgE e) :
    ∃ l', L15q (((), ()), (((), p, ()), a :: t, ())) = some (((), a.1, 0, ()), ((), p, ()), l', ()) ∧ l'.Perm t ∧ Hp wE dE l' l'.length 0 := by
  have hsw := swap_last a t dE
  have hlen : (((a :: t).set 0 ((a :: t).getD t.length dE)).take t.length).length = t.length := by simp
  have hpm : (((a :: t).set 0 ((a :: t).getD t.length dE)).take t.length).Perm t := ((List.perm_cons a).1 hsw).symm
  have hgw : ∀ i, 0 < i → i < t.length → gw wE dE (((a :: t).set 0 ((a :: t).getD t.length dE)).take t.length) i = gw wE dE (a :: t) i := by
    intro i h0 h1
    unfold gw
    simp only [List.getD_eq_getElem?_getD]
    rw [List.getElem?_take_of_lt h1, List.getElem?_set_ne (by omega)]
  obtain ⟨l', h1, h2, h3⟩ := Lg15q_10_val p 0 0 a.1.1 a.1.2 (((a :: t).set 0 ((a :: t).getD t.length dE)).take t.length) (by rw [hlen]; omega) (fun e he => hr e (List.mem_cons_of_mem _ (hpm.mem_iff.1 he)))
    ⟨fun i h0 hn _ hne => by
      rw [hlen] at hn
      rw [hgw i h0 hn, hgw _ (by omega) (by omega)]
      exact hh i h0 (by simp; omega) (Nat.zero_le _), fun h => absurd h (by omega)⟩
  refine ⟨l', ?_, h2.trans hpm, h3⟩
  refine (F15q_eq L17q Lg15q_10 p (a :: t)).trans ?_
  rw [L17q_val, Option.bind_some]
  have e1 : IntKind.i64.wrap ((((a :: t).length : Nat) : Int) - 1) = (t.length : Int) := by
    rw [List.length_cons, wi (by omega) (by omega)]
    omega
  simp only [e1, List.length_set, Int.toNat_natCast, Nat.sub_zero]
  have c1 : (0 : Int) ≤ (t.length : Int) := by omega
  have c2 : (t.length : Int) < ((a :: t).length : Int) := by rw [List.length_cons]; omega
  have c3 : (0 : Int) < ((a :: t).length : Int) := by rw [List.length_cons]; omega
  have c4 : (t.length : Int) ≤ ((a :: t).length : Int) := by rw [List.length_cons]; omega
  have c5 : ¬ (a :: t).length = 0 := by simp
  simp only [if_pos c1, if_pos c2, if_pos c3, if_pos c4, if_neg c5]
  rw [hlen] at h1
  have h1' : Lg15q_10 (((), (), (), (t.length : Int), 0, ()), (((), p, ()), (0, 0, ()), (((a :: t).getD 0 dE).1.1, ((a :: t).getD 0 dE).1.2, ()), ((a :: t).set 0 ((a :: t).getD t.length dE)).take t.length, ())) = _ := h1
  have hd : ∀ {c : Bool} {X : Option rs15q.den}, (if c = true then X else X) = X := by intro c X; split <;> rfl
  have hne : ¬ (!((0 : Int) == 0)) = true := by decide
  rw [if_neg hne, hd]
  have h2' : Lg15q_10 (((), (), (), (t.length : Int), 0, ()), (((), p, ()), (0, 0, ()), (((a :: t).getD 0 dE).1.1, ((a :: t).getD 0 dE).1.2, ()), ((a :: t).set 0 ((((a :: t).getD t.length ((0, 0), 0)).1.1, ((a :: t).getD t.length ((0, 0), 0)).1.2), ((a :: t).getD t.length ((0, 0), 0)).2)).take t.length, ())) = _ := h1
  rw [h2']
  rfl
end Go.Proofs.Rf
/- What the functions of merges come to. -/
namespace Go.Proofs.Rf
open Go Classical

theorem Lg24_6_val {l out : List It} {i : Nat} (hi : i < l.length) (_hl : l.length ≤ 1000) (ho : out.length ≤ 1000) :
    ∃ k : Nat, k ≤ out.length ∧ Lg24_6 ((l, (), (i : Int), (out.length : Int), ()), (out, ())) = some ((l, (), (i : Int), (k : Int), ()), (out, ())) ∧
      (∀ j, k ≤ j → j < out.length → (l.getD i (0, 0)).1 < (out.getD j (0, 0)).1) ∧ (∀ j, j + 1 = k → ¬ (l.getD i (0, 0)).1 < (out.getD j (0, 0)).1) := by
  obtain ⟨z, h1, k, h2, h3, h4, h5⟩ := limL_ind (f := S24_6) (fun x => x.1.2.2.2.1.toNat) (fun x => ∃ k : Nat, k ≤ out.length ∧ (∀ j, k ≤ j → j < out.length → (l.getD i (0, 0)).1 < (out.getD j (0, 0)).1) ∧ x = ((l, (), (i : Int), (k : Int), ()), (out, ())))
      (fun z => ∃ k : Nat, k ≤ out.length ∧ z = ((l, (), (i : Int), (k : Int), ()), (out, ())) ∧ (∀ j, k ≤ j → j < out.length → (l.getD i (0, 0)).1 < (out.getD j (0, 0)).1) ∧ (∀ j, j + 1 = k → ¬ (l.getD i (0, 0)).1 < (out.getD j (0, 0)).1)) (by
    rintro x ⟨k, hk, hs, rfl⟩
    rw [S24_6_eq]
    cases k with
    | zero => exact .inr ⟨_, if_neg (by simp), 0, by omega, rfl, hs, fun j hj => by omega⟩
    | succ j =>
      have e1 : ((j + 1 : Nat) : Int) - 1 = (j : Int) := by omega
      rw [if_pos (decide_eq_true (by omega)), wi (n := ((j + 1 : Nat) : Int) - 1) (by omega) (by omega), e1, if_pos (by omega), if_pos (by omega), if_pos (by omega), if_pos (by omega), Int.toNat_natCast, Int.toNat_natCast]
      by_cases hlt : (l.getD i (0, 0)).1 < (out.getD j (0, 0)).1
      · refine .inl ⟨((l, (), (i : Int), (j : Int), ()), (out, ())), if_pos (decide_eq_true hlt), ⟨j, by omega, fun m hm hm2 => ?_, rfl⟩, ?_⟩
        · by_cases q : m = j
          · subst q; exact hlt
          · exact hs m (by omega) hm2
        · show (j : Int).toNat < ((j + 1 : Nat) : Int).toNat
          omega
      · refine .inr ⟨_, if_neg (by simpa using hlt), j + 1, hk, rfl, hs, fun m hm => ?_⟩
        have : m = j := by omega
        subst this
        exact hlt) ((l, (), (i : Int), (out.length : Int), ()), (out, ())) ⟨out.length, by omega, fun j h1 h2 => by omega, rfl⟩
  refine ⟨k, h2, ?_, h4, h5⟩
  show limL S24_6 _ = _
  rw [h1, h3]

theorem L24_val (l : List It) (hl : l.length ≤ 900) : L24 (l, ()) = some ((isort l, ()), ()) := by
  obtain ⟨z, h1, h2⟩ := limL_ind (f := S24_3 Lg24_6) (fun x => l.length - x.1.2.2.1.toNat) (fun x => ∃ k : Nat, k ≤ l.length ∧ x = ((l, (), (k : Int), ()), (isort (l.take k), ()))) (fun z => z.2.1 = isort l) (by
    rintro x ⟨i, hk, rfl⟩
    rw [S24_3_eq]
    by_cases h : i < l.length
    · left
      have hlen : (isort (l.take i)).length = i := by rw [isort_length, List.length_take]; omega
      have hup := isort_up (l.take i)
      have hsn : isort (l.take (i + 1)) = insL (l.getD i (0, 0)) (isort (l.take i)) := by rw [← isort_snoc, take_snoc h]
      generalize isort (l.take i) = out at *
      obtain ⟨k, k1, k2, k3, k4⟩ := Lg24_6_val (out := out) h (by omega) (by omega)
      refine ⟨((l, (), ((i + 1 : Nat) : Int), ()), (isort (l.take (i + 1)), ())), ?_, ⟨i + 1, by omega, rfl⟩, ?_⟩
      · rw [if_pos (decide_eq_true (by omega)), k2, Option.bind_some]
        have e0 : (out ++ [((0, 0) : It)]).length = i + 1 := by simp [hlen]
        have e1 : IntKind.i64.wrap ((k : Int) + 1) = ((k + 1 : Nat) : Int) := wi (by omega) (by omega)
        have sh := shift (out := out) (d := (0, 0)) (x := l.getD i (0, 0)) (k := k) (n := i) hlen.symm (by omega)
        have hat := insL_at (l.getD i (0, 0)) out k hup k1 k3 k4
        dsimp only
        have c1 : (0 : Int) ≤ (k : Int) := by omega
        have c2 : (k : Int) ≤ ((out ++ [((0, 0) : It)]).length : Int) := by omega
        have c3 : (0 : Int) ≤ (i : Int) := by omega
        have c4 : (i : Int) < (l.length : Int) := by omega
        rw [e1, if_pos (by omega), if_pos (by omega), if_pos (by omega), if_pos (by omega), if_pos c1, if_pos c2, if_pos (by omega), if_pos c3, if_pos c4, if_pos c1]
        have hL := congrArg List.length sh
        rw [List.length_set] at hL
        simp only [Int.toNat_natCast, e0]
        have c5 : (k : Int) < ((List.take (k + 1) (out ++ [((0, 0) : It)]) ++ List.take (i + 1 - (k + 1)) (List.take (i + 1 - k) (List.drop k (out ++ [(0, 0)]))) ++ List.drop (k + 1 + min (List.take (i + 1 - k) (List.drop k (out ++ [(0, 0)]))).length (i + 1 - (k + 1))) (out ++ [(0, 0)])).length : Int) := by
          rw [hL]
          simp
          omega
        rw [if_pos c5, wi (n := (i : Int) + 1) (by omega) (by omega)]
        have sh' : (List.take (k + 1) (out ++ [((0, 0) : It)]) ++ List.take (i + 1 - (k + 1)) (List.take (i + 1 - k) (List.drop k (out ++ [(0, 0)]))) ++ List.drop (k + 1 + min (List.take (i + 1 - k) (List.drop k (out ++ [(0, 0)]))).length (i + 1 - (k + 1))) (out ++ [(0, 0)])).set k ((l.getD i (0, 0)).1, (l.getD i (0, 0)).2) = isort (l.take (i + 1)) := by
          rw [hsn, hat]
          exact sh
        rw [sh']
        rfl
      · show l.length - ((i + 1 : Nat) : Int).toNat < l.length - (i : Int).toNat
        omega
    · right
      refine ⟨_, if_neg (by simp; omega), ?_⟩
      show isort (l.take i) = isort l
      rw [List.take_of_length_le (by omega)]) ((l, (), 0, ()), ([], ())) ⟨0, by omega, rfl⟩
  show F24 Lg24_3 (l, ()) = _
  rw [F24_eq]
  show (limL (S24_3 Lg24_6) _).bind _ = _
  rw [h1]
  simp only [Option.bind_some]
  rw [h2]

end Go.Proofs.Rf
/- The functions, filled in. -/
namespace Go.Proofs.Rf
open Go Go.RowKit
noncomputable def K11 : (SV.denL ps11) → Option (rs11).den := F11
theorem okK11 : CallOK Tryd.prog 11 (mkCall ps11 rs11 K11) := call11
noncomputable def K19q : (psh19q.den) → Option (rs19q).den := F19q
theorem okK19q : CallOK Tryd.prog 19 (mkCallB psh19q rs19q m19q 1 K19q) := call19q
noncomputable def K17q : (psh17q.den) → Option (rs17q).den := F17q K19q
theorem okK17q : CallOK Tryd.prog 17 (mkCallB psh17q rs17q m17q 1 K17q) := call17q okK19q
noncomputable def K123 : (SV.denL ps123) → Option (rs123).den := F123
theorem okK123 : CallOK Tryd.prog 123 (mkCall ps123 rs123 K123) := call123
noncomputable def K124 : (SV.denL ps124) → Option (rs124).den := F124
theorem okK124 : CallOK Tryd.prog 124 (mkCall ps124 rs124 K124) := call124
noncomputable def Kg50_2 : sh50_2.den → Option (denX w50_2) := iterL (S50_2 K123 K124) 100
noncomputable def K50 : (SV.denL ps50) → Option (rs50).den := F50 Kg50_2
theorem okK50 : CallOK Tryd.prog 50 (mkCall ps50 rs50 K50) := call50 okK123 okK124 (lim_iterL _ _)
noncomputable def Kg15q_12 : sh15q_12.den → Option (denX w15q_12) := iterL (S15q_12 K50) 100
noncomputable def Kg15q_10 : sh15q_10.den → Option (denX w15q_10) := iterL (S15q_10 Kg15q_12) 100
noncomputable def K15q : (psh15q.den) → Option (rs15q).den := F15q K17q Kg15q_10
theorem okK15q : CallOK Tryd.prog 15 (mkCallB psh15q rs15q m15q 1 K15q) := call15q okK17q okK50 (lim_iterL _ _) (lim_iterL _ _)
noncomputable def Kg22_3 : sh22_3.den → Option (denX w22_3) := iterL (S22_3) 100
noncomputable def K22 : (SV.denL ps22) → Option (rs22).den := F22 Kg22_3
theorem okK22 : CallOK Tryd.prog 22 (mkCall ps22 rs22 K22) := call22 (lim_iterL _ _)
noncomputable def Kg25_4 : sh25_4.den → Option (denX w25_4) := iterL (S25_4) 100
noncomputable def K25 : (SV.denL ps25) → Option (rs25).den := F25 Kg25_4
theorem okK25 : CallOK Tryd.prog 25 (mkCall ps25 rs25 K25) := call25 (lim_iterL _ _)
noncomputable def K28 : (SV.denL ps28) → Option (rs28).den := F28
theorem okK28 : CallOK Tryd.prog 28 (mkCall ps28 rs28 K28) := call28
noncomputable def K53 : (SV.denL ps53) → Option (rs53).den := F53
theorem okK53 : CallOK Tryd.prog 53 (mkCall ps53 rs53 K53) := call53
noncomputable def Kg52_2 : sh52_2.den → Option (denX w52_2) := iterL (S52_2 K53) 100
noncomputable def K52 : (SV.denL ps52) → Option (rs52).den := F52 Kg52_2
theorem okK52 : CallOK Tryd.prog 52 (mkCall ps52 rs52 K52) := call52 okK53 (lim_iterL _ _)
noncomputable def K74 : (SV.denL ps74) → Option (rs74).den := F74
theorem okK74 : CallOK Tryd.prog 74 (mkCall ps74 rs74 K74) := call74
noncomputable def K56 : (SV.denL ps56) → Option (rs56).den := iterF (fun R => F56 K52 R K74) 100
theorem okK56 : CallOK Tryd.prog 56 (mkCall ps56 rs56 K56) := callOK_iter ⟨Tryd.f56, Tryd.func56, by kernel_rfl, by kernel_rfl⟩ (fun R hR => call56 okK52 hR okK74) 100
noncomputable def K30 : (SV.denL ps30) → Option (rs30).den := F30 K56
theorem okK30 : CallOK Tryd.prog 30 (mkCall ps30 rs30 K30) := call30 okK56
noncomputable def K34 : (SV.denL ps34) → Option (rs34).den := F34
theorem okK34 : CallOK Tryd.prog 34 (mkCall ps34 rs34 K34) := call34
noncomputable def K57 : (SV.denL ps57) → Option (rs57).den := F57
theorem okK57 : CallOK Tryd.prog 57 (mkCall ps57 rs57 K57) := call57
noncomputable def K75 : (SV.denL ps75) → Option (rs75).den := F75 K57
theorem okK75 : CallOK Tryd.prog 75 (mkCall ps75 rs75 K75) := call75 okK57
noncomputable def K58 : (SV.denL ps58) → Option (rs58).den := iterF (fun R => F58 R K75) 100
theorem okK58 : CallOK Tryd.prog 58 (mkCall ps58 rs58 K58) := callOK_iter ⟨Tryd.f58, Tryd.func58, by kernel_rfl, by kernel_rfl⟩ (fun R hR => call58 hR okK75) 100
noncomputable def K82 : (SV.denL ps82) → Option (rs82).den := F82
theorem okK82 : CallOK Tryd.prog 82 (mkCall ps82 rs82 K82) := call82
noncomputable def K76 : (SV.denL ps76) → Option (rs76).den := F76 K82
theorem okK76 : CallOK Tryd.prog 76 (mkCall ps76 rs76 K76) := call76 okK82
noncomputable def K59 : (SV.denL ps59) → Option (rs59).den := iterF (fun R => F59 R K75 K76) 100
theorem okK59 : CallOK Tryd.prog 59 (mkCall ps59 rs59 K59) := callOK_iter ⟨Tryd.f59, Tryd.func59, by kernel_rfl, by kernel_rfl⟩ (fun R hR => call59 hR okK75 okK76) 100
noncomputable def K35t : (psh35t.den) → Option (rs35t).den := F35t K28 K57 K58 K59
theorem okK35t : CallOK Tryd.prog 35 (mkCallB psh35t rs35t m35t 3 K35t) := call35t okK28 okK57 okK58 okK59
noncomputable def K60t : (psh60t.den) → Option (rs60t).den := F60t K34
theorem okK60t : CallOK Tryd.prog 60 (mkCallB psh60t rs60t m60t 1 K60t) := call60t okK34
noncomputable def K83u : (psh83u.den) → Option (rs83u).den := F83u
theorem okK83u : CallOK Tryd.prog 83 (mkCallB psh83u rs83u m83u 1 K83u) := call83u
noncomputable def K77u : (psh77u.den) → Option (rs77u).den := F77u K83u
theorem okK77u : CallOK Tryd.prog 77 (mkCallB psh77u rs77u m77u 2 K77u) := call77u okK83u
noncomputable def K78u : (psh78u.den) → Option (rs78u).den := F78u K83u
theorem okK78u : CallOK Tryd.prog 78 (mkCallB psh78u rs78u m78u 2 K78u) := call78u okK83u
noncomputable def K95 : (SV.denL ps95) → Option (rs95).den := F95
theorem okK95 : CallOK Tryd.prog 95 (mkCall ps95 rs95 K95) := call95
noncomputable def K93 : (SV.denL ps93) → Option (rs93).den := F93 K95
theorem okK93 : CallOK Tryd.prog 93 (mkCall ps93 rs93 K93) := call93 okK95
noncomputable def K90 : (SV.denL ps90) → Option (rs90).den := F90 K93
theorem okK90 : CallOK Tryd.prog 90 (mkCall ps90 rs90 K90) := call90 okK93
noncomputable def K84 : (SV.denL ps84) → Option (rs84).den := F84 K90
theorem okK84 : CallOK Tryd.prog 84 (mkCall ps84 rs84 K84) := call84 okK90
noncomputable def K94 : (psh94.den) → Option (rs94).den := F94
theorem okK94 : CallOK Tryd.prog 94 (mkCallB psh94 rs94 m94 0 K94) := call94
noncomputable def K91 : (psh91.den) → Option (rs91).den := F91 K94
theorem okK91 : CallOK Tryd.prog 91 (mkCallB psh91 rs91 m91 0 K91) := call91 okK94
noncomputable def K85u : (psh85u.den) → Option (rs85u).den := F85u K83u K91
theorem okK85u : CallOK Tryd.prog 85 (mkCallB psh85u rs85u m85u 2 K85u) := call85u okK83u okK91
noncomputable def Kg79u_1 : sh79u_1.den → Option (denX w79u_1) := iterL (S79u_1 K85u) 100
noncomputable def K79u : (psh79u.den) → Option (rs79u).den := F79u K84 Kg79u_1
theorem okK79u : CallOK Tryd.prog 79 (mkCallB psh79u rs79u m79u 2 K79u) := call79u okK84 okK85u (lim_iterL _ _)
noncomputable def K61u : (psh61u.den) → Option (rs61u).den := iterF (fun R => F61u R K77u K78u K79u) 100
theorem okK61u : CallOK Tryd.prog 61 (mkCallB psh61u rs61u m61u 2 K61u) := callOKB_iter ⟨Tryd.f61, Tryd.func61, by kernel_rfl, by kernel_rfl⟩ (fun R hR => call61u hR okK77u okK78u okK79u) 100
noncomputable def K83f : (psh83f.den) → Option (rs83f).den := F83f
theorem okK83f : CallOK Tryd.prog 83 (mkCallB psh83f rs83f m83f 1 K83f) := call83f
noncomputable def K77f : (psh77f.den) → Option (rs77f).den := F77f K83f
theorem okK77f : CallOK Tryd.prog 77 (mkCallB psh77f rs77f m77f 2 K77f) := call77f okK83f
noncomputable def K78f : (psh78f.den) → Option (rs78f).den := F78f K83f
theorem okK78f : CallOK Tryd.prog 78 (mkCallB psh78f rs78f m78f 2 K78f) := call78f okK83f
noncomputable def K61f : (psh61f.den) → Option (rs61f).den := F61f K61u K77f K77u K78f K78u K79u
theorem okK61f : CallOK Tryd.prog 61 (mkCallB psh61f rs61f m61f 2 K61f) := call61f okK61u okK77f okK77u okK78f okK78u okK79u
noncomputable def K62u : (psh62u.den) → Option (rs62u).den := F62u
theorem okK62u : CallOK Tryd.prog 62 (mkCallB psh62u rs62u m62u 1 K62u) := call62u
noncomputable def K36t : (psh36t.den) → Option (rs36t).den := F36t K60t K61f K62u
theorem okK36t : CallOK Tryd.prog 36 (mkCallB psh36t rs36t m36t 1 K36t) := call36t okK60t okK61f okK62u
noncomputable def Kg48_2 : sh48_2.den → Option (denX w48_2) := iterL (S48_2) 100
noncomputable def K48 : (SV.denL ps48) → Option (rs48).den := F48 Kg48_2
theorem okK48 : CallOK Tryd.prog 48 (mkCall ps48 rs48 K48) := call48 (lim_iterL _ _)
noncomputable def K49 : (SV.denL ps49) → Option (rs49).den := F49
theorem okK49 : CallOK Tryd.prog 49 (mkCall ps49 rs49 K49) := call49
noncomputable def Kg13q_7 : sh13q_7.den → Option (denX w13q_7) := iterL (S13q_7 K50) 100
noncomputable def K13q : (psh13q.den) → Option (rs13q).den := F13q K19q K48 K49 Kg13q_7
theorem okK13q : CallOK Tryd.prog 13 (mkCallB psh13q rs13q m13q 2 K13q) := call13q okK19q okK48 okK49 okK50 (lim_iterL _ _)
noncomputable def Kg10_6 : sh10_6.den → Option (denX w10_6) := iterL (S10_6 K13q) 100
noncomputable def K10 : (SV.denL ps10) → Option (rs10).den := F10 K11 K15q K22 K25 K28 K30 K34 K35t K36t Kg10_6
theorem okK10 : CallOK Tryd.prog 10 (mkCall ps10 rs10 K10) := call10 okK11 okK13q okK15q okK22 okK25 okK28 okK30 okK34 okK35t okK36t (lim_iterL _ _)
end Go.Proofs.Rf
/- The law of queues. -/
namespace Go.Proofs.Rf
open Go

theorem L14q_val (x : It) (r : List It) (hr : r.length ≤ 800) : L14q (((), x, ()), ((r, ()), ())) = some (((), x, 0, ()), (isort (r ++ [x]), ()), ()) := by
  refine (F14q_eq L24 x.1 x.2 r).trans ?_
  have e1 : ¬ decide ((r.length : Int) ≥ 10000) = true := by simp; omega
  rw [if_neg e1, if_pos (by omega), if_pos (by simp; omega)]
  have h := L24_val (r ++ [x]) (by simp; omega)
  have h' : L24 (r ++ [(x.1, x.2)], ()) = _ := h
  rw [h']
  rfl
theorem L14n_val (x : It) : L14n (((), x, ()), ()) = some (((), x, 30, ()), ()) := F14n_eq L24 x.1 x.2
theorem L18q_val (r : List It) : L18q (((), ()), ((r, ()), ())) = some (((), r.getD 0 (0, 0), if r.length = 0 then 10 else 0, ()), (r, ()), ()) := by
  refine (F18q_eq r).trans ?_
  by_cases h : r.length = 0
  · have := List.length_eq_zero_iff.1 h
    subst this
    rfl
  · rw [if_neg (by simpa using h), if_neg h, if_pos (by omega)]
    rfl
theorem L16q_val (r : List It) : L16q (((), ()), ((r, ()), ())) = some (((), r.getD 0 (0, 0), if r.length = 0 then 10 else 0, ()), (r.drop 1, ()), ()) := by
  refine (F16q_eq L18q r).trans ?_
  rw [L18q_val, Option.bind_some]
  by_cases h : r.length = 0
  · have := List.length_eq_zero_iff.1 h
    subst this
    rfl
  · simp only [if_neg h]
    rw [if_pos (by rfl), if_pos (by omega), if_pos (by omega)]
    rfl
theorem L20q_val (r : List It) : L20q (((), ()), ((r, ()), ())) = some (((), (r.length : Int), ()), (r, ()), ()) := F20q_eq r
theorem L15n_val : L15n (((), ()), ()) = some (((), (0, 0), 30, ()), ()) := F15n_eq
theorem L16n_val : L16n (((), ()), ()) = some (((), (0, 0), 30, ()), ()) := F16n_eq L18n
theorem L18n_val : L18n (((), ()), ()) = some (((), (0, 0), 10, ()), ()) := F18n_eq
theorem L19n_val : L19n (((), ()), ()) = some (((), 0, ()), ()) := F19n_eq
theorem L20n_val : L20n (((), ()), ()) = some (((), 0, ()), ()) := F20n_eq
theorem L17n_val : L17n (((), ()), ()) = some (((), (0, 0), 10, ()), ()) := by
  refine (F17n_eq L19n).trans ?_
  rw [L19n_val]
  rfl

abbrev Dd := Int × (Int × Int)
noncomputable abbrev S3n := S3_7 L13q L13n L14q L14n L15q L15n L16q L16n L17q L17n L18q L18n L19q L19n L20q L20n
noncomputable abbrev S3q := S3_7v1 L13q L13n L14q L14n L15q L15n L16q L16n L17q L17n L18q L18n L19q L19n L20q L20n
noncomputable def Lg3_7 : sh3_7.den → Option (denX w3_7) := limL S3n
noncomputable def Lg3_7v1 : sh3_7v1.den → Option (denX w3_7v1) := limL S3q

theorem S3n_step (ds : List Dd) (k : Nat) (hk : k < ds.length) (hl : ds.length ≤ 100) :
    S3n (((), (), ds, (ds.length : Int), (k : Int), ()), ()) = some (.inl (((), (), ds, (ds.length : Int), ((k + 1 : Nat) : Int), ()), ())) := by
  refine (S3_7_eq L13q L13n L14q L14n L15q L15n L16q L16n L17q L17n L18q L18n L19q L19n L20q L20n ds (ds.length : Int) (k : Int)).trans ?_
  have e1 : IntKind.i64.wrap ((k : Int) + 1) = ((k + 1 : Nat) : Int) := wi (by omega) (by omega)
  rw [if_pos (by simp; omega), if_pos (by omega), if_pos (by omega), e1]
  simp only [Int.toNat_natCast]
  generalize ds.getD k (0, 0, 0) = d
  rw [L13n_val, L14n_val, L15n_val, L16n_val, L17n_val, L18n_val, L19n_val, L20n_val]
  simp only [Option.bind_some]
  have t1 : ¬ (!((30 : Int) == 30)) = true := by decide
  have t2 : ¬ (!((0 : Int) == 0 && ((0 : Int) == 0 && true))) = true := by decide
  have t3 : ¬ (!((10 : Int) == 10)) = true := by decide
  have t4 : ¬ (!((0 : Int) == 0)) = true := by decide
  simp only [if_neg t1, if_neg t2, if_neg t3, if_neg t4, ite_self]

theorem S3q_step (ds : List Dd) (k : Nat) (hk : k < ds.length) (hl : ds.length ≤ 100) (p : Int) (r : List It) (h : List En) (hp : 0 ≤ p ∧ p ≤ k) (hh : h.length ≤ k) (q : QR h p r) :
    ∃ (p' : Int) (r' : List It) (h' : List En), S3q (((), (), ds, (ds.length : Int), (k : Int), ()), (((), p, ()), (r, ()), h, ())) = some (.inl (((), (), ds, (ds.length : Int), ((k + 1 : Nat) : Int), ()), (((), p', ()), (r', ()), h', ()))) ∧ (0 ≤ p' ∧ p' ≤ ((k + 1 : Nat) : Int)) ∧ h'.length ≤ k + 1 ∧ QR h' p' r' := by
  have hS := S3_7v1_eq L13q L13n L14q L14n L15q L15n L16q L16n L17q L17n L18q L18n L19q L19n L20q L20n ds (ds.length : Int) (k : Int) p r h
  have e1 : IntKind.i64.wrap ((k : Int) + 1) = ((k + 1 : Nat) : Int) := wi (by omega) (by omega)
  rw [if_pos (by simp; omega), if_pos (by omega), if_pos (by omega), e1] at hS
  simp only [Int.toNat_natCast] at hS
  generalize ds.getD k (0, 0, 0) = d at hS
  have hup := q.up (by omega)
  have hlen := q.length
  have hrg : ∀ e ∈ h, rgE e := by
    obtain ⟨es, _, e2, _, e4, _⟩ := q
    intro e he
    have := e4 e (e2.mem_iff.2 he)
    exact ⟨this.1, by omega⟩
  have hhp : Hp wE dE h h.length 0 := by
    obtain ⟨_, _, _, _, _, e5⟩ := q
    exact e5
  have t2 : ∀ a b : Int, ¬ (!(a == a && (b == b && true))) = true := by simp
  have t1 : ∀ a : Int, ¬ (!(a == a)) = true := by simp
  -- pushing
  obtain ⟨h1, p1, p2, p3⟩ := L13q_val d.2 p h (by omega) ⟨hp.1, by omega⟩ hhp hrg
  have g1 := L14q_val d.2 r (by omega)
  rw [isort_snoc, isort_sorted hup] at g1
  have p1' : L13q (((), (d.2.1, d.2.2), ()), ((), p, ()), h, ()) = _ := p1
  have g1' : L14q (((), (d.2.1, d.2.2), ()), (r, ()), ()) = _ := g1
  rw [p1', g1'] at hS
  -- looking
  rw [L17q_val, L18q_val] at hS
  simp only [Option.bind_some] at hS
  rw [L19q_val, L20q_val] at hS
  simp only [Option.bind_some] at hS
  have hroot : r.getD 0 (0, 0) = (h.getD 0 dE).1 ∧ (if r.length = 0 then (10 : Int) else 0) = (if h.length = 0 then (10 : Int) else 0) := by
    rw [hlen]
    refine ⟨?_, rfl⟩
    cases h with
    | nil => rw [List.length_eq_zero_iff.1 (by rw [hlen]; rfl : r.length = 0)]; rfl
    | cons a t =>
      obtain ⟨r', rfl, _⟩ := q.root
      rfl
  -- popping
  have hpop : ∃ h' r', L15q (((), ()), (((), p, ()), h, ())) = some (((), (h.getD 0 dE).1, if h.length = 0 then 10 else 0, ()), ((), p, ()), h', ()) ∧ r.drop 1 = r' ∧ QR h' p r' ∧ h'.length ≤ k := by
    cases h with
    | nil =>
      have : r = [] := List.length_eq_zero_iff.1 (by rw [hlen]; rfl)
      subst this
      exact ⟨[], [], L15q_nil p, rfl, q, Nat.zero_le _⟩
    | cons a t =>
      rw [List.length_cons] at hh
      obtain ⟨l', k1, k2, k3⟩ := L15q_cons p a t (by omega) hhp hrg
      obtain ⟨r', hr', hq⟩ := q.root
      refine ⟨l', r', k1, by rw [hr']; rfl, hq l' k2 k3, by rw [k2.length_eq]; omega⟩
  obtain ⟨h2, r2, k1, k2, k3, k4⟩ := hpop
  rw [k1, L16q_val, k2, hroot.1, hroot.2] at hS
  simp only [Option.bind_some] at hS
  rw [hlen] at hS
  simp only [if_neg (t1 _), if_neg (t2 _ _)] at hS
  have key : ∀ {c : Bool} {A B : Option (sh3_7v1.den ⊕ denX w3_7v1)} {Z : Option (sh3_7v1.den ⊕ denX w3_7v1)}, Z = (if c = true then A else B) → Z = A ∨ Z = B := by
    intro c A B Z h
    split at h
    · exact .inl h
    · exact .inr h
  have push : S3q (((), (), ds, (ds.length : Int), (k : Int), ()), (((), p, ()), (r, ()), h, ())) = some (.inl (((), (), ds, (ds.length : Int), ((k + 1 : Nat) : Int), ()), (((), p + 1, ()), (insL d.2 r, ()), h1, ()))) → ∃ (p' : Int) (r' : List It) (h' : List En), S3q (((), (), ds, (ds.length : Int), (k : Int), ()), (((), p, ()), (r, ()), h, ())) = some (.inl (((), (), ds, (ds.length : Int), ((k + 1 : Nat) : Int), ()), (((), p', ()), (r', ()), h', ()))) ∧ (0 ≤ p' ∧ p' ≤ ((k + 1 : Nat) : Int)) ∧ h'.length ≤ k + 1 ∧ QR h' p' r' := fun e =>
    ⟨_, _, _, e, ⟨by omega, by omega⟩, by rw [p2.length_eq]; simp; omega, q.push hp.1 (by omega) p2 p3⟩
  have pop : S3q (((), (), ds, (ds.length : Int), (k : Int), ()), (((), p, ()), (r, ()), h, ())) = some (.inl (((), (), ds, (ds.length : Int), ((k + 1 : Nat) : Int), ()), (((), p, ()), (r2, ()), h2, ()))) → ∃ (p' : Int) (r' : List It) (h' : List En), S3q (((), (), ds, (ds.length : Int), (k : Int), ()), (((), p, ()), (r, ()), h, ())) = some (.inl (((), (), ds, (ds.length : Int), ((k + 1 : Nat) : Int), ()), (((), p', ()), (r', ()), h', ()))) ∧ (0 ≤ p' ∧ p' ≤ ((k + 1 : Nat) : Int)) ∧ h'.length ≤ k + 1 ∧ QR h' p' r' := fun e =>
    ⟨p, r2, h2, e, ⟨hp.1, by omega⟩, by omega, k3⟩
  have look : S3q (((), (), ds, (ds.length : Int), (k : Int), ()), (((), p, ()), (r, ()), h, ())) = some (.inl (((), (), ds, (ds.length : Int), ((k + 1 : Nat) : Int), ()), (((), p, ()), (r, ()), h, ()))) → ∃ (p' : Int) (r' : List It) (h' : List En), S3q (((), (), ds, (ds.length : Int), (k : Int), ()), (((), p, ()), (r, ()), h, ())) = some (.inl (((), (), ds, (ds.length : Int), ((k + 1 : Nat) : Int), ()), (((), p', ()), (r', ()), h', ()))) ∧ (0 ≤ p' ∧ p' ≤ ((k + 1 : Nat) : Int)) ∧ h'.length ≤ k + 1 ∧ QR h' p' r' := fun e =>
    ⟨p, r, h, e, ⟨hp.1, by omega⟩, by omega, q⟩
  rcases key hS with e | e
  · rcases key e with e | e
    · exact push e
    · rcases key e with e | e
      · exact pop e
      · exact look e
  · rcases key e with e | e
    · exact push e
    · rcases key e with e | e
      · exact pop e
      · exact look e

theorem Lg3_7_val (ds : List Dd) (hl : ds.length ≤ 100) : Lg3_7 (((), (), ds, (ds.length : Int), 0, ()), ()) = some (.inr ((), ())) := by
  obtain ⟨z, h1, h2⟩ := limL_ind (f := S3n) (fun s => ds.length - s.1.2.2.2.2.1.toNat) (fun s => ∃ k : Nat, k ≤ ds.length ∧ s = (((), (), ds, (ds.length : Int), (k : Int), ()), ())) (fun z => z = .inr ((), ())) (by
    rintro s ⟨k, hk, rfl⟩
    by_cases h : k < ds.length
    · refine .inl ⟨_, S3n_step ds k h hl, ⟨k + 1, by omega, rfl⟩, ?_⟩
      show ds.length - ((k + 1 : Nat) : Int).toNat < ds.length - (k : Int).toNat
      omega
    · exact .inr ⟨_, (S3_7_eq L13q L13n L14q L14n L15q L15n L16q L16n L17q L17n L18q L18n L19q L19n L20q L20n ds _ _).trans (if_neg (by simp; omega)), rfl⟩) (((), (), ds, (ds.length : Int), ((0 : Nat) : Int), ()), ()) ⟨0, by omega, rfl⟩
  exact h1.trans (congrArg some h2)

theorem Lg3_7v1_val (ds : List Dd) (hl : ds.length ≤ 100) : Lg3_7v1 (((), (), ds, (ds.length : Int), 0, ()), (((), 0, ()), ([], ()), [], ())) = some (.inr ((), ())) := by
  obtain ⟨z, h1, h2⟩ := limL_ind (f := S3q) (fun s => ds.length - s.1.2.2.2.2.1.toNat) (fun s => ∃ (k : Nat) (p : Int) (r : List It) (h : List En), k ≤ ds.length ∧ s = (((), (), ds, (ds.length : Int), (k : Int), ()), (((), p, ()), (r, ()), h, ())) ∧ (0 ≤ p ∧ p ≤ k) ∧ h.length ≤ k ∧ QR h p r) (fun z => z = .inr ((), ())) (by
    rintro s ⟨k, p, r, h, hk, rfl, hp, hh, q⟩
    by_cases hlt : k < ds.length
    · obtain ⟨p', r', h', e, a1, a2, a3⟩ := S3q_step ds k hlt hl p r h hp hh q
      refine .inl ⟨_, e, ⟨k + 1, p', r', h', by omega, rfl, a1, a2, a3⟩, ?_⟩
      show ds.length - ((k + 1 : Nat) : Int).toNat < ds.length - (k : Int).toNat
      omega
    · exact .inr ⟨_, (S3_7v1_eq L13q L13n L14q L14n L15q L15n L16q L16n L17q L17n L18q L18n L19q L19n L20q L20n ds _ _ _ _ _).trans (if_neg (by simp; omega)), rfl⟩) (((), (), ds, (ds.length : Int), ((0 : Nat) : Int), ()), (((), 0, ()), ([], ()), [], ())) ⟨0, 0, [], [], by omega, rfl, ⟨by omega, by omega⟩, by simp, QR.nil⟩
  exact h1.trans (congrArg some h2)

theorem K10_val' : K10 () = some ((true, ()), ()) := by kernel_rfl
noncomputable def law3 : (SV.denL ps3) → Option (rs3).den := F3 K10 L11 L12 Lg3_7 Lg3_7v1
theorem law3_ok : CallOK Tryd.prog 3 (mkCall ps3 rs3 law3) := call3 okK10 okL11 okL12 okL13n okL13q okL14n okL14q okL15n okL15q okL16n okL16q okL17n okL17q okL18n okL18q okL19n okL19q okL20n okL20q (lim_limL _) (lim_limL _)
theorem law3_true (ds : List Dd) (none : Bool) : law3 (ds, none, ()) = some ((true, ()), ()) := by
  refine (F3_eq K10 L11 L12 Lg3_7 Lg3_7v1 ds none).trans ?_
  by_cases h : ds.length > 100
  · rw [if_pos (by simp; omega), K10_val']
    rfl
  · rw [if_neg (by simp; omega), show L11 () = _ from F11_eq, Option.bind_some, show L12 () = _ from F12_eq, Option.bind_some, Lg3_7_val ds (by omega)]
    cases none
    · rw [if_neg (by simp)]
      have := Lg3_7v1_val ds (by omega)
      simp only
      rw [this, Option.bind_some, K10_val']
      rfl
    · rw [if_pos rfl, Option.bind_some, K10_val']
      rfl
end Go.Proofs.Rf
/- Rf, part H: from a law's contract to what a given statement asks of its walk. -/
namespace Go.Proofs.Rf
open Go Go.RowKit

def iNone : Nat → Option Value := fun _ => none
def cDead : Nat → Blk := fun _ => .dead

theorem owned_none {ι : Nat → Option Value} {b : Nat} : ¬ owned ι cDead b := by
  rintro ⟨k, hk⟩
  rw [bk_dead rfl] at hk
  cases hk

/-- A world of which nothing is the call's own. -/
theorem HRel.start (w : World) (hg : GlOK w (fun b => b < w.heap.size)) : HRel (fun _ => False) (fun b => b < w.heap.size) w iNone cDead w :=
  ⟨fun k => trivial, fun k k' b h1 _ => (by rw [bk_dead rfl] at h1; cases h1), Kept.refl _ _, fun b hb => (owned_none hb).elim, fun b hb => hb, fun b hb => (owned_none hb).elim, fun b hb => hb.elim, hg.mono fun g q => ⟨⟨q, owned_none, fun q => q⟩, rfl⟩⟩

/-- A law that is handed data and returns true. -/
theorem law_walk {P : Program} {f : Nat} {ps : List SV} {F : SV.denL ps → Option (Shape.den ⟨[(0, .d false .bool)], []⟩)} (h : CallOK P f (mkCall ps ⟨[(0, .d false .bool)], []⟩ F)) (w : World) {args : List AV} {vs : List Value} {x : SV.denL ps} {fz : List (Nat × Blk)}
    (ht : SV.takeL cDead [] ps args = some (x, fz)) (hF : F x = some ((true, ()), ())) (hrel : RelL w (fun b => b < w.heap.size) iNone args vs) (hg : GlOK w (fun b => b < w.heap.size)) : Calls P f vs.toArray w fun e w' => e = .returned (.bool true) ∧ Below w.heap.size w w' := by
  have hok : okb (fun _ => False) w iNone cDead = fun b => b < w.heap.size := by
    funext b
    exact propext ⟨fun q => q.1, fun q => ⟨q, owned_none, fun q => q⟩⟩
  have hco : mkCall ps ⟨[(0, .d false .bool)], []⟩ F args cDead 0 Eff some = some ⟨.d .bool true, [], []⟩ := by
    unfold mkCall
    rw [ht]
    simp only [hF]
    rfl
  refine (h.run _ _ w w iNone cDead 0 args vs _ (HRel.start w hg) (by rw [hok]; exact hrel) hco (fun _ _ _ => rfl)).mono ?_
  rintro e w' ⟨v, rfl, ι', H, E, hv, _⟩
  have hv := rel_bool.1 hv
  exact ⟨by rw [hv], H.fr.os, H.fr.tape, H.fr.output, H.fr.size, fun i hi => H.fr.block i hi hi⟩
end Go.Proofs.Rf
/- What the listed variables give: the table of orders. -/
namespace Go.Proofs.Rf
open Go Go.ChangeShapes Go.WideShapes Go.ChangeAt Go.RowKit

abbrev laid36 : List (String × DataW Unit) := Go.Proofs.YtfabaiiobdhocaaDoor.Rows.sortingMergesRow.laid

theorem cells133 : Tryd.prog.cellsOf 133 = 1 := by kernel_rfl
theorem cells134 : Tryd.prog.cellsOf 134 = 2 := by kernel_rfl
theorem cells132 : Tryd.prog.cellsOf 132 = 1 := by kernel_rfl

set_option maxRecDepth 100000 in
theorem gl36 {W : World} (h : laidMetH Tryd.prog laid36 W) : GlOK W (fun b => b < W.heap.size) := by
  obtain ⟨g, t, cs, fuel, p, hg, ht, hv, hd⟩ := h.funcs (n := "bowline/sorting.orders") (d := .agg [.agg [.iface "func" (.lit (.string [98, 111, 119, 108, 105, 110, 101, 47, 115, 111, 114, 116, 105, 110, 103, 46, 111, 114, 100, 101, 114, 115, 36, 49]))], .agg [.iface "func" (.lit (.string [98, 111, 119, 108, 105, 110, 101, 47, 115, 111, 114, 116, 105, 110, 103, 46, 111, 114, 100, 101, 114, 115, 36, 50]))]])
    (List.mem_cons_of_mem _ (List.mem_cons_of_mem _ (List.mem_cons_of_mem _ (List.mem_cons_self ..))))
  obtain rfl := Option.some.inj ((show Tryd.prog.globalNamed "bowline/sorting.orders" = some 0 by kernel_rfl).symm.trans hg)
  obtain rfl := Option.some.inj ((show (Tryd.prog.globals[0]?).map (·.type) = some 134 by kernel_rfl).symm.trans ht)
  have hd' : DataW.trod (funcToken Tryd.prog) Tryd.prog W 0 (fun _ => true) true fuel 134 cs.toList = some (.agg [.agg [.held [98, 111, 119, 108, 105, 110, 101, 47, 115, 111, 114, 116, 105, 110, 103, 46, 111, 114, 100, 101, 114, 115, 36, 49]], .agg [.held [98, 111, 119, 108, 105, 110, 101, 47, 115, 111, 114, 116, 105, 110, 103, 46, 111, 114, 100, 101, 114, 115, 36, 50]]], p) := hd
  obtain ⟨xs, m, _, hx, hlen, hn, hel⟩ := DataW.trod_array Tryd.underlying134 hd'
  rw [cells134] at hlen
  obtain ⟨c0, c1, hcs⟩ : ∃ c0 c1, cs.toList = [c0, c1] := by
    match hq : cs.toList, hlen with
    | [a, b], _ => exact ⟨a, b, rfl⟩
  obtain ⟨y0, y1, hxs⟩ : ∃ y0 y1, xs = [y0, y1] := by
    match hq : xs, hn with
    | [a, b], _ => exact ⟨a, b, rfl⟩
  subst hxs
  rw [hcs] at hel
  have e0 : DataW.trod (funcToken Tryd.prog) Tryd.prog W 0 (fun _ => true) true m 133 [c0] = some y0 := by
    have := hel 0 (by omega)
    rw [cells133] at this
    exact this
  have e1 : DataW.trod (funcToken Tryd.prog) Tryd.prog W 0 (fun _ => true) true m 133 [c1] = some y1 := by
    have := hel 1 (by omega)
    rw [cells133] at this
    exact this
  obtain ⟨z0, n0, q0, _, r0⟩ := trod_struct1 Tryd.underlying133 e0
  obtain ⟨z1, n1, q1, _, r1⟩ := trod_struct1 Tryd.underlying133 e1
  subst q0; subst q1
  have hx1 := congrArg Prod.fst hx
  simp only [List.map_cons, List.map_nil] at hx1
  injection hx1 with hx1
  injection hx1 with a0 hx1
  injection hx1 with a1 _
  injection a0 with a0
  injection a0 with a0 _
  injection a1 with a1
  injection a1 with a1 _
  have r0 : DataW.trod (funcToken Tryd.prog) Tryd.prog W 0 (fun _ => true) true n0 132 [c0] = some z0 := by
    have := r0
    rw [show (Tryd.prog.cellsOf _) = 1 from cells132] at this
    exact this
  have r1 : DataW.trod (funcToken Tryd.prog) Tryd.prog W 0 (fun _ => true) true n1 132 [c1] = some z1 := by
    have := r1
    rw [show (Tryd.prog.cellsOf _) = 1 from cells132] at this
    exact this
  obtain ⟨z0, zq0⟩ := z0
  obtain ⟨z1, zq1⟩ := z1
  simp only at a0 a1
  subst a0; subst a1
  have f0 := Go.func_of_trod (f0 := 123) Tryd.underlying132 (by kernel_rfl) r0
  have f1 := Go.func_of_trod (f0 := 124) Tryd.underlying132 (by kernel_rfl) r1
  subst f0; subst f1
  intro g us hgl
  unfold glob at hgl
  split at hgl
  · injection hgl with hgl
    subst hgl
    unfold World.var? at hv
    rw [show Tryd.prog.globalNamed "bowline/sorting.orders" = some 0 by kernel_rfl] at hv
    simp only [Option.bind_some] at hv
    split at hv
    · rename_i cs' e' fz hh
      injection hv with hv
      subst hv
      have hcs : cs' = List.toArray [.func (.func 123) #[] #[], .func (.func 124) #[] #[]] := by
        apply Array.ext'
        simpa using hcs
      refine ⟨(Array.getElem?_eq_some_iff.1 hh).1, by simp, e', fz, by rw [hh, hcs]⟩
    · cases hv
  · cases hgl
end Go.Proofs.Rf
/- Rf, part I: what a given statement hands to a law: data of the law's types, read off the world; and how it reads behind the call. -/
namespace Go.Proofs.Rf
open Go Go.RowKit Go.ChangeShapes Go.WideShapes

/-- A kind of numbers holds a number. -/
def fitK (k : IntKind) (n : Int) : Prop := k.min ≤ n ∧ n ≤ k.max

/-- Numbers fit their kinds; what is long is not too long. -/
def Ty.fit : (t : Ty) → t.den → Prop
  | .int k, n => fitK k n
  | .str, s => s.length ≤ maxLen
  | .sl t, xs => xs.length ≤ maxLen ∧ ∀ x ∈ xs, t.fit x
  | .pr a b, x => a.fit x.1 ∧ b.fit x.2
  | _, _ => True

def tyFs (g : Nat → Option Ty) (c : Nat → Nat) : Nat → List Field → Option (List Ty)
  | _, [] => some []
  | o, f :: r => match g f.type with
    | some ty => if (Nat.beq f.offset o && Nat.beq (c f.type) ty.size) = true then (match tyFs g c (o + ty.size) r with
      | some ts => some (ty :: ts)
      | none => none) else none
    | none => none

/-- The shape of data of a type, where its parts lie one behind the other. -/
def goodTy (P : Program) : Nat → Nat → Option Ty
  | 0, _ => none
  | k + 1, t => match P.underlying t with
    | some (.int i) => some (.int i)
    | some .bool => some .bool
    | some .string => some .str
    | some (.slice e) => (match goodTy P k e with
      | some ty => if (Nat.blt 0 ty.size && Nat.beq (P.cellsOf e) ty.size) = true then some (.sl ty) else none
      | none => none)
    | some (.struct fields) => (match tyFs (goodTy P k) P.cellsOf 0 fields.toList with
      | some ts => if Nat.beq (P.cellsOf t) (prL ts).size = true then some (prL ts) else none
      | none => none)
    | _ => none

section
variable {H : Type} {enc : TypeId × Value → H} {P : Program} {w : World} {sp : Nat → Bool} {held : Bool}

theorem cells_get {a : Addr} {n : Nat} {cs : List Value} (h : w.cells? 0 a n = some cs) : cs.length = n ∧ ∀ j u, cs[j]? = some u → w.cell? (a.add j) = some u := by
  unfold World.cells? at h
  rw [if_pos (Nat.zero_le _)] at h
  have hl := mapM_some_length h
  rw [List.length_range] at hl
  refine ⟨hl, fun j u hu => ?_⟩
  have hj : j < n := by
    rw [← hl]
    exact (List.getElem?_eq_some_iff.1 hu).1
  have := mapM_some_get h j j (by simp [hj])
  rw [hu] at this
  exact this

theorem add_plain (g o j : Nat) : Addr.add ⟨g, o, none⟩ j = ⟨g, o + j, none⟩ := by
  unfold Addr.add
  split
  · rename_i h
    rw [h]; rfl
  · rfl

theorem add_two (a : Addr) {m r j : Nat} (h : m + r = j) : (a.add m).add r = a.add j := by
  subst h
  unfold Addr.add
  by_cases h1 : m = 0
  · subst h1
    simp
  · by_cases h2 : r = 0
    · subst h2
      simp [h1]
    · rw [if_neg h1, if_neg h2, if_neg (by omega), Nat.add_assoc]

theorem cell_place {a : Addr} {u : Value} (h : w.cell? a = some u) : a.spot = none ∧ a.block < w.heap.size := by
  refine ⟨World.cell?_spot h, ?_⟩
  unfold World.cell? at h
  split at h
  · rename_i h1
    exact (Array.getElem?_eq_some_iff.1 h1).1
  · cases h

/-- A row of equal parts. -/
theorem rowL {α : Type} {D : α → List Value → Prop} {Q : α → Prop} {n : Nat} (at_ : Nat → Option (List Value)) : ∀ (len k : Nat), (∀ i, i < len → ∃ cs x, at_ (k + i) = some cs ∧ cs.length = n ∧ D x cs ∧ Q x) →
    ∃ (xs : List α) (cs : List Value), xs.length = len ∧ RzL D xs cs ∧ cs.length = len * n ∧ (∀ x ∈ xs, Q x) ∧ ∀ i j c, i < len → at_ (k + i) = some c → j < n → cs[i * n + j]? = c[j]?
  | 0, k, _ => ⟨[], [], rfl, rfl, by simp, by simp, fun i j c hi => by omega⟩
  | len + 1, k, h => by
    obtain ⟨c0, x0, h0, hl0, hd0, hq0⟩ := h 0 (by omega)
    obtain ⟨xs, cs, hxl, hr, hcl, hq, hg⟩ := rowL at_ len (k + 1) (fun i hi => by
      obtain ⟨c, x, h1, h2⟩ := h (i + 1) (by omega)
      exact ⟨c, x, by rw [show k + 1 + i = k + (i + 1) by omega]; exact h1, h2⟩)
    refine ⟨x0 :: xs, c0 ++ cs, by simp [hxl], ⟨c0, cs, rfl, hd0, hr⟩, by rw [List.length_append, hl0, hcl, Nat.add_mul]; omega, ?_, ?_⟩
    · intro x hx
      rcases List.mem_cons.1 hx with rfl | hx
      · exact hq0
      · exact hq x hx
    · intro i j c hi hc hj
      cases i with
      | zero =>
        rw [Nat.add_zero] at h0 hc
        rw [h0] at hc
        cases hc
        rw [Nat.zero_mul, Nat.zero_add, List.getElem?_append_left (by omega)]
      | succ i =>
        rw [List.getElem?_append_right (by rw [hl0, Nat.add_mul]; omega), show (i + 1) * n + j - c0.length = i * n + j by rw [hl0, Nat.add_mul]; omega]
        exact hg i j c (by omega) (by rw [show k + 1 + i = k + (i + 1) by omega]; exact hc) hj

/-- The parts of a struct. -/
theorem fields_open {g : Nat → Option Ty} {c : Nat → Nat} {cs : List Value} {D : Nat → List Value → Prop} (ho : ∀ t ty us, g t = some ty → D t us → ∃ x : ty.den, Rz w (fun b => b < w.heap.size) ty x us ∧ ty.fit x) :
    ∀ (fs : List Field) (ts : List Ty) (o : Nat), tyFs g c o fs = some ts → (∀ f ∈ fs, D f.type ((cs.drop f.offset).take (c f.type))) → (cs.drop o).length = (prL ts).size →
      ∃ x : (prL ts).den, Rz w (fun b => b < w.heap.size) (prL ts) x (cs.drop o) ∧ (prL ts).fit x
  | [], ts, o, ht, _, hl => by
    cases ht
    exact ⟨(), List.eq_nil_of_length_eq_zero hl, trivial⟩
  | f :: r, ts, o, ht, hD, hl => by
    unfold tyFs at ht
    split at ht
    · rename_i ty hty
      split at ht
      · rename_i hc
        split at ht
        · rename_i ts' hts
          cases ht
          simp only [Bool.and_eq_true] at hc
          have ho' := Nat.eq_of_beq_eq_true hc.1
          have hs := Nat.eq_of_beq_eq_true hc.2
          have hd := hD f (by simp)
          rw [ho', hs] at hd
          obtain ⟨x, hx, hf⟩ := ho _ _ _ hty hd
          cases ts' with
          | nil =>
            have hl : _ = ty.size := hl
            rw [List.take_of_length_le (by omega)] at hx
            exact ⟨x, hx, hf⟩
          | cons b r' =>
            have hl : _ = ty.size + (prL (b :: r')).size := hl
            obtain ⟨y, hy, hg⟩ := fields_open ho r (b :: r') (o + ty.size) hts (fun f hf => hD f (by simp [hf])) (by rw [← List.drop_drop, List.length_drop]; omega)
            exact ⟨(x, y), ⟨_, _, by rw [← List.drop_drop, List.take_append_drop], hx, hy⟩, hf, hg⟩
        · cases ht
      · cases ht
    · cases ht

/-- Data of a type, read off its cells. -/
theorem open_cells : ∀ (k : Nat) (t : Nat) (ty : Ty), goodTy P k t = some ty → ∀ (fuel : Nat) (cs : List Value) (d : DataW H × List MemPlace), DataW.trod enc P w 0 sp held fuel t cs = some d →
    ∃ x : ty.den, Rz w (fun b => b < w.heap.size) ty x cs ∧ ty.fit x
  | 0, t, ty, hty, _, _, _, _ => by cases hty
  | k + 1, t, ty, hty, fuel, cs, d, h => by
    unfold goodTy at hty
    split at hty
    · rename_i i hu
      cases hty
      obtain ⟨n, rfl, _, hw⟩ := DataW.trod_int hu h
      simp only [Lit.wf, Bool.and_eq_true, decide_eq_true_eq] at hw
      exact ⟨n, rfl, hw⟩
    · rename_i hu
      cases hty
      obtain ⟨b, rfl, _⟩ := DataW.trod_bool hu h
      exact ⟨b, rfl, trivial⟩
    · rename_i hu
      cases hty
      obtain ⟨s, rfl, _, hs⟩ := DataW.trod_string hu h
      refine ⟨s.data.toList, ?_, ?_⟩
      · show _ = _
        cases s
        rfl
      · show _ ≤ _
        rw [Array.length_toList]
        exact hs
    · rename_i e hu
      split at hty
      · rename_i te hte
        split at hty
        · rename_i hc
          cases hty
          simp only [Bool.and_eq_true] at hc
          have hpos : 0 < te.size := Nat.le_of_ble_eq_true hc.1
          have hsz := Nat.eq_of_beq_eq_true hc.2
          rcases DataW.trod_slice hu h with ⟨rfl, _⟩ | ⟨a, len, cap, elems, rest, n, _, rfl, _, _, hlc, hcm, hel, hget, _, _⟩
          · exact ⟨[], ⟨none, 0, rfl, Nat.le_refl _, fun hp => by simp at hp⟩, by simp [Ty.fit]⟩
          · have hrow : ∀ i, i < len → ∃ cs x, (fun i => w.cells? 0 (a.add (i * te.size)) te.size) (0 + i) = some cs ∧ cs.length = te.size ∧ Rz w (fun b => b < w.heap.size) te x cs ∧ te.fit x := by
              intro i hi
              have hg := hget i hi
              rw [hsz, List.getElem?_eq_getElem (by omega)] at hg
              obtain ⟨c, h1, h2⟩ := Option.bind_eq_some_iff.1 hg
              obtain ⟨x, hx, hf⟩ := open_cells k e te hte n c _ h2
              exact ⟨c, x, by rw [Nat.zero_add]; exact h1, (cells_get h1).1, hx, hf⟩
            obtain ⟨xs, cs, hxl, hr, hcl, hq, hg⟩ := rowL (fun i => w.cells? 0 (a.add (i * te.size)) te.size) len 0 hrow
            refine ⟨xs, ⟨some a, cap, by rw [hxl], by rw [hxl]; exact hlc, fun hp => ?_⟩, by rw [hxl]; omega, hq⟩
            rw [hxl] at hp
            have hcell : ∀ j u, cs[j]? = some u → w.cell? (a.add j) = some u := by
              intro j u hu
              have hj : j < len * te.size := by rw [← hcl]; exact (List.getElem?_eq_some_iff.1 hu).1
              have hi : j / te.size < len := Nat.div_lt_of_lt_mul (by rw [Nat.mul_comm]; exact hj)
              obtain ⟨c, _, h1, hl, _⟩ := hrow (j / te.size) hi
              have hjm : j % te.size < te.size := Nat.mod_lt _ hpos
              have e1 : j / te.size * te.size + j % te.size = j := by rw [Nat.mul_comm]; exact Nat.div_add_mod _ _
              have := hg (j / te.size) (j % te.size) c hi h1 hjm
              rw [e1, hu] at this
              rw [Nat.zero_add] at h1
              have h3 := (cells_get h1).2 (j % te.size) u this.symm
              have e2 : (a.add (j / te.size * te.size)).add (j % te.size) = a.add j := add_two a e1
              rw [← e2]
              exact h3
            have h0 : ∃ u, cs[0]? = some u := by
              refine ⟨_, List.getElem?_eq_getElem ?_⟩
              rw [hcl]
              exact Nat.mul_pos hp hpos
            obtain ⟨u, hu⟩ := h0
            have hp := cell_place (hcell 0 u hu)
            obtain ⟨g, o, s⟩ := a
            obtain ⟨hp1, hp2⟩ := hp
            have hs : s = none := hp1
            subst hs
            exact ⟨g, o, cs, rfl, hp2, hr, fun j u hu => by rw [← add_plain]; exact hcell j u hu⟩
        · cases hty
      · cases hty
    · rename_i fields hu
      split at hty
      · rename_i ts hts
        split at hty
        · rename_i hc
          cases hty
          obtain ⟨xs, n, _, _, hlen, _, hf⟩ := DataW.trod_struct hu h
          rw [Nat.eq_of_beq_eq_true hc] at hlen
          have hf : ∀ f ∈ fields.toList, ∃ y, DataW.trod enc P w 0 sp held n f.type ((cs.drop f.offset).take (P.cellsOf f.type)) = some y := by
            intro f hm
            obtain ⟨i, hi, e⟩ := List.getElem_of_mem hm
            have hi' : i < fields.size := by simpa using hi
            have e' : fields[i]? = some f := by rw [Array.getElem?_eq_getElem hi']; simp only [← e, Array.getElem_toList]
            have := hf i f e'
            rw [this]
            exact ⟨xs[i]'(by omega), List.getElem?_eq_getElem _⟩
          have := fields_open (cs := cs) (D := fun t us => ∃ y, DataW.trod enc P w 0 sp held n t us = some y) (fun t ty us h1 ⟨y, h2⟩ => open_cells k t ty h1 n us y h2) fields.toList ts 0 hts hf (by rw [List.drop_zero]; exact hlen)
          rw [List.drop_zero] at this
          exact this
        · cases hty
      · cases hty
    · cases hty

/-! ### Arguments -/
def aggB (P : Program) (t : Nat) : Bool := match P.underlying t with
  | some (.struct _) => true
  | _ => false

theorem eqv_self : ∀ (t : Ty), t.eqv t = some ⟨rfl⟩
  | .int k => by
    have : ikEq k k = true := by cases k <;> rfl
    simp [Ty.eqv, this]
  | .bool => rfl
  | .str => rfl
  | .sl t => by
    unfold Ty.eqv
    rw [eqv_self t]
  | .pr a b => by
    unfold Ty.eqv
    rw [eqv_self a, eqv_self b]
  | .un => rfl
  | .ic => rfl
  | .fk f => by simp [Ty.eqv]
  | .tr a b => by
    unfold Ty.eqv
    rw [eqv_self a, eqv_self b]

theorem pack_unpack (C : Nat → Blk) : ∀ (t : Ty) (x : t.den) (r : List AV), pack C t (unpack t x ++ r) = some (x, r, [])
  | .int k, x, r => by
    have : dat1 C (.int k) (.d (.int k) x) = some (x, []) := by
      show (if ikEq k k = true then some (x, []) else none) = _
      rw [if_pos (by cases k <;> rfl)]
    show (match dat1 C (.int k) (.d (.int k) x) with | some (x, f) => some (x, r, f) | none => none) = _
    rw [this]
  | .bool, x, r => rfl
  | .str, x, r => rfl
  | .sl t, x, r => by
    have : dat1 C (.sl t) (.d (.sl t) x) = some (x, []) := by
      simp only [dat1, eqv_self]
      rfl
    show (match dat1 C (.sl t) (.d (.sl t) x) with | some (x, f) => some (x, r, f) | none => none) = _
    rw [this]
  | .pr a b, x, r => by
    show pack C (.pr a b) ((unpack a x.1 ++ unpack b x.2) ++ r) = _
    rw [List.append_assoc]
    unfold pack
    rw [pack_unpack C a x.1]
    simp only
    rw [pack_unpack C b x.2]
    rfl
  | .un, x, r => rfl
  | .ic, x, r => rfl
  | .fk f, x, r => by
    have : dat1 C (.fk f) (.fn f []) = some ((), []) := by
      show (if Nat.beq f f = true then some ((), []) else none) = _
      rw [if_pos (Nat.beq_refl f)]
    show (match dat1 C (.fk f) (.fn f []) with | some (x, f) => some (x, r, f) | none => none) = _
    rw [this]
  | .tr a b, x, r => by
    have : dat1 C (.tr a b) (.d (.tr a b) x) = some (x, []) := by
      simp only [dat1, eqv_self]
      rfl
    show (match dat1 C (.tr a b) (.d (.tr a b) x) with | some (x, f) => some (x, r, f) | none => none) = _
    rw [this]

theorem dat_ag (C : Nat → Blk) (t : Ty) (x : t.den) : dat C t (.ag (unpack t x)) = some (x, []) := by
  have := pack_unpack C t x []
  rw [List.append_nil] at this
  show (match pack C t (unpack t x) with | some (x, [], f) => some (x, f) | _ => none) = _
  rw [this]

theorem take_ag (C : Nat → Blk) (t : Ty) (x : t.den) : SV.take C [] (.d true t) (.ag (unpack t x)) = some (x, []) := dat_ag C t x

theorem take_one (C : Nat → Blk) (t : Ty) (x : t.den) (h : unpack t x = [.d t x]) : SV.take C [] (.d false t) (.d t x) = some (x, []) := by
  have := pack_unpack C t x []
  rw [List.append_nil, h] at this
  show (match pack C t [.d t x] with | some (x, [], f) => some (x, f) | _ => none) = _
  rw [this]

theorem open_arg {r : Reach} {b0 k t : Nat} {ty : Ty} {v : Value} {d : DataW H} {ps : List MemPlace} (hg : goodTy P (k + 1) t = some ty) (hv : Value.okWide P w r b0 t v) (hd : DataW.Trod enc P w 0 sp held t v d ps) :
    ∃ (a : AV) (x : ty.den), RelV w (fun b => b < w.heap.size) iNone a v ∧ SV.take cDead [] (.d (aggB P t) ty) a = some (x, []) ∧ ty.fit x := by
  obtain ⟨fuel, hf⟩ := hd
  obtain ⟨x, hx, hfit⟩ := open_cells (k + 1) t ty hg fuel _ _ hf
  unfold goodTy at hg
  unfold aggB
  split at hg
  · rename_i i hu
    cases hg
    obtain ⟨n, rfl⟩ := okWide_int hu hv
    rw [hu]
    exact ⟨_, x, by simp only [RelV]; exact hx, take_one _ _ x rfl, hfit⟩
  · rename_i hu
    cases hg
    obtain ⟨n, rfl⟩ := okWide_bool hu hv
    rw [hu]
    exact ⟨_, x, by simp only [RelV]; exact hx, take_one _ _ x rfl, hfit⟩
  · rename_i hu
    cases hg
    obtain ⟨n, rfl⟩ := okWide_string hu hv
    rw [hu]
    exact ⟨_, x, by simp only [RelV]; exact hx, take_one _ _ x rfl, hfit⟩
  · rename_i e hu
    split at hg
    · split at hg
      · cases hg
        obtain ⟨a, l, c, rfl⟩ := okWide_slice hu hv
        rw [hu]
        exact ⟨_, x, by simp only [RelV]; exact hx, take_one _ _ x rfl, hfit⟩
      · cases hg
    · cases hg
  · rename_i fs hu
    split at hg
    · split at hg
      · cases hg
        obtain ⟨cs, rfl, _⟩ := okWide_struct hu hv
        rw [hu]
        have hx : Rz _ _ _ x cs.toList := hx
        exact ⟨_, x, by simp only [RelV]; exact ⟨cs.toList, by simp, RelL_unpack _ _ _ hx⟩, take_ag _ _ x, hfit⟩
      · cases hg
    · cases hg
  · cases hg

def argsOf (P : Program) : List Nat → Option (List SV)
  | [] => some []
  | t :: r => match goodTy P 16 t with
    | some ty => match argsOf P r with
      | some s => some (.d (aggB P t) ty :: s)
      | none => none
    | none => none

def fitDL : (l : List SV) → SV.denL l → Prop
  | [], _ => True
  | .d _ t :: r, x => t.fit x.1 ∧ fitDL r x.2
  | _ :: _, _ => False

/-- All arguments, as data. -/
theorem open_args {r : Reach} {b0 : Nat} : ∀ (ts : List TypeId) (vs : List Value) (ds : List (DataW H)) (ps : List MemPlace), DataW.TrodAll enc P w 0 sp held ts vs ds ps →
    (∀ (j : Nat) t v, ts[j]? = some t → vs[j]? = some v → Value.okWide P w r b0 t v) → ∀ (svs : List SV), argsOf P ts = some svs →
    ∃ (avs : List AV) (x : SV.denL svs), RelL w (fun b => b < w.heap.size) iNone avs vs ∧ SV.takeL cDead [] svs avs = some (x, []) ∧ fitDL svs x
  | [], vs, ds, ps, h, _, svs, hs => by
    obtain ⟨rfl, _, _⟩ := trodAll_nil h
    cases hs
    exact ⟨[], (), RelL_nil.2 rfl, rfl, trivial⟩
  | t :: ts, vs, ds, ps, h, hv, svs, hs => by
    obtain ⟨v, vs', d, ds', p, q, rfl, rfl, rfl, hd, hr⟩ := trodAll_cons h
    unfold argsOf at hs
    split at hs
    · rename_i ty hty
      split at hs
      · rename_i s hs'
        cases hs
        obtain ⟨a, x, h1, h2, h3⟩ := open_arg hty (hv 0 t v rfl rfl) hd
        obtain ⟨avs, y, h4, h5, h6⟩ := open_args ts vs' ds' q hr (fun j t' v' h7 h8 => hv (j + 1) t' v' h7 h8) s hs'
        refine ⟨a :: avs, (x, y), RelL_cons.2 ⟨v, vs', rfl, h1, h4⟩, ?_, h3, h6⟩
        unfold SV.takeL
        rw [h2]
        simp only
        rw [h5]
        rfl
      · cases hs
    · cases hs

/-- They read behind the call as ahead of it. -/
theorem shut_args {W W' : World} (hl : laidOutB P = true) (hb : Below W.heap.size W W') : ∀ (ts : List TypeId) (vs : List Value) (ds : List (DataW H)) (ps : List MemPlace), (∀ t ∈ ts, P.readableRec t = true ∧ t < P.types.size) →
    DataW.TrodAll enc P W 0 (fun _ => true) true ts vs ds ps → DataW.TrodAll enc P W' 0 (fun b => decide (b < W.heap.size)) true ts vs ds ps
  | [], vs, ds, ps, _, h => by
    obtain ⟨rfl, rfl, rfl⟩ := trodAll_nil h
    exact trodAll_mk0
  | t :: ts, vs, ds, ps, ht, h => by
    obtain ⟨v, vs', d, ds', p, q, rfl, rfl, rfl, hd, hr⟩ := trodAll_cons h
    have lt : ∀ x ∈ p, x.block < W.heap.size := by
      obtain ⟨m, hm⟩ := hd
      exact DataW.trod_lt m _ _ _ hm
    exact trodAll_cons_mk (Below.trod hl (ht t (by simp)).1 (ht t (by simp)).2 hd hb lt) (shut_args hl hb ts vs' ds' q (fun t' h' => ht t' (by simp [h'])) hr)
end
end Go.Proofs.Rf
