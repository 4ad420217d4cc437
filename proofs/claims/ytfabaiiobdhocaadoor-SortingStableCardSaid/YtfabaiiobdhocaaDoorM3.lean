/- Texts put together: Q36, EQ360, E26, L36, A1, A2, A3, A4, H1, H6, H7, K36, Gg, Gh, H8, H9, Gx. -/
import Derived.Test.YtfabaiiobdhocaaDoorM2
import Derived.Below
import Derived.WalkKit
import Derived.ProofKit
import Derived.OpenShut
import Derived.ChangeOld
import Derived.ChangeArms
import Derived.Carry
import Derived.Test.YtfabaiiobdhocaaDoorRows
import Derived.LaidMore
import Derived.Stop.Joined
/- The functions of the program as functions over data. -/
namespace Go.Proofs.Rf
open Go Go.RowKit
abbrev tb : Tab := tabOf tyTab
theorem mixed : Tryd.prog.follows .mixedOrders = true := by kernel_rfl
theorem ext89 : ExtOK Tryd.prog 89 sameO := same_ok Tryd.func89 (by kernel_rfl) (by kernel_rfl) (by kernel_rfl) (by kernel_rfl)
abbrev tI : Ty := .int .i64
abbrev tIt : Ty := .pr (.int .i64) (.int .i64)
abbrev tEn : Ty := .pr tIt (.int .i64)
abbrev tR : Ty := .tr (.pr (.int .i64) (.int .u64)) (.int .i64)
/-! 11 bowline/sorting.NewQueue -/
abbrev ps11 : List SV := []
abbrev rs11 : Shape := ⟨[(0, .pt 0 0)], [.box 90 [.rf 1, .d false tI], .row tEn 96]⟩
noncomputable def F11 : (SV.denL ps11) → Option (rs11).den := runFn tb [] [] Tryd.f11 ps11 rs11
theorem call11 : CallOK Tryd.prog 11 (mkCall ps11 rs11 (F11)) :=
  runFn_ok mixed tabOK (Δ := []) trivial ⟨Tryd.func11, rfl, by kernel_rfl, by kernel_rfl, by kernel_rfl, by kernel_rfl⟩ rfl (loopsAt_zip (Λ := []) (cs := []) (by kernel_rfl) (by kernel_rfl) (by kernel_rfl) trivial)
/-! 19 (*bowline/sorting.Queue).Len -/
abbrev psh19q : Shape := ⟨[(0, .pt 0 0)], [.box 90 [.rf 1, .d false tI], .row tEn 96]⟩
abbrev m19q : List Nat := [0]
abbrev rs19q : Shape := ⟨[(0, .pt 0 0), (1, .d false tI)], [.box 90 [.rf 1, .d false tI], .row tEn 96]⟩
noncomputable def F19q : (psh19q.den) → Option (rs19q).den := runFnB tb [] [] Tryd.f19 psh19q rs19q 1
theorem call19q : CallOK Tryd.prog 19 (mkCallB psh19q rs19q m19q 1 (F19q)) :=
  runFnB_ok mixed tabOK (Δ := []) trivial ⟨Tryd.func19, rfl, by kernel_rfl, by kernel_rfl, by kernel_rfl, by kernel_rfl, by kernel_rfl, by kernel_rfl, by kernel_rfl, by kernel_rfl, by kernel_rfl⟩ rfl (loopsAt_zip (Λ := []) (cs := []) (by kernel_rfl) (by kernel_rfl) (by kernel_rfl) trivial)
/-! 17 (*bowline/sorting.Queue).Peek -/
abbrev psh17q : Shape := ⟨[(0, .pt 0 0)], [.box 90 [.rf 1, .d false tI], .row tEn 96]⟩
abbrev m17q : List Nat := [0]
abbrev rs17q : Shape := ⟨[(0, .pt 0 0), (1, .d true tIt), (2, .d false tI)], [.box 90 [.rf 1, .d false tI], .row tEn 96]⟩
noncomputable def F17q (F19q : (psh19q.den) → Option (rs19q).den) : (psh17q.den) → Option (rs17q).den := runFnB tb [(19, mkCallB psh19q rs19q m19q 1 F19q)] [] Tryd.f17 psh17q rs17q 1
theorem call17q {F19q : (psh19q.den) → Option (rs19q).den} (h19q : CallOK Tryd.prog 19 (mkCallB psh19q rs19q m19q 1 F19q)) : CallOK Tryd.prog 17 (mkCallB psh17q rs17q m17q 1 (F17q F19q)) :=
  runFnB_ok mixed tabOK (Δ := [(19, mkCallB psh19q rs19q m19q 1 F19q)]) ⟨.inl h19q, trivial⟩ ⟨Tryd.func17, rfl, by kernel_rfl, by kernel_rfl, by kernel_rfl, by kernel_rfl, by kernel_rfl, by kernel_rfl, by kernel_rfl, by kernel_rfl, by kernel_rfl⟩ rfl (loopsAt_zip (Λ := []) (cs := []) (by kernel_rfl) (by kernel_rfl) (by kernel_rfl) trivial)
/-! 123 bowline/sorting.orders$1 -/
abbrev ps123 : List SV := [.d true tEn, .d true tEn]
abbrev rs123 : Shape := ⟨[(0, .d false .bool)], []⟩
noncomputable def F123 : (SV.denL ps123) → Option (rs123).den := runFn tb [] [] Tryd.f123 ps123 rs123
theorem call123 : CallOK Tryd.prog 123 (mkCall ps123 rs123 (F123)) :=
  runFn_ok mixed tabOK (Δ := []) trivial ⟨Tryd.func123, rfl, by kernel_rfl, by kernel_rfl, by kernel_rfl, by kernel_rfl⟩ rfl (loopsAt_zip (Λ := []) (cs := []) (by kernel_rfl) (by kernel_rfl) (by kernel_rfl) trivial)
/-! 124 bowline/sorting.orders$2 -/
abbrev ps124 : List SV := [.d true tEn, .d true tEn]
abbrev rs124 : Shape := ⟨[(0, .d false .bool)], []⟩
noncomputable def F124 : (SV.denL ps124) → Option (rs124).den := runFn tb [] [] Tryd.f124 ps124 rs124
theorem call124 : CallOK Tryd.prog 124 (mkCall ps124 rs124 (F124)) :=
  runFn_ok mixed tabOK (Δ := []) trivial ⟨Tryd.func124, rfl, by kernel_rfl, by kernel_rfl, by kernel_rfl, by kernel_rfl⟩ rfl (loopsAt_zip (Λ := []) (cs := []) (by kernel_rfl) (by kernel_rfl) (by kernel_rfl) trivial)
/-! 50 (bowline/sorting.entry).before -/
abbrev ps50 : List SV := [.d true tEn, .d true tEn]
abbrev rs50 : Shape := ⟨[(0, .d false .bool)], []⟩
abbrev sh50_2 : Shape := ⟨[(2, .pt 0 0), (3, .pt 1 0), (7, .d true (.pr (.fk 123) (.fk 124))), (8, .d false tI)], [.box 96 [.d false tI, .d false tI, .d false tI], .box 96 [.d false tI, .d false tI, .d false tI]]⟩
abbrev w50_2 : List Way := [(none, ⟨[(4, .d false .bool)], []⟩), (some 0, ⟨[], []⟩)]
noncomputable def S50_2 (F123 : (SV.denL ps123) → Option (rs123).den) (F124 : (SV.denL ps124) → Option (rs124).den) : sh50_2.den → Option (sh50_2.den ⊕ denX w50_2) := stepFn tb [(123, mkCall ps123 rs123 F123), (124, mkCall ps124 rs124 F124)] [] (upTo 29) Tryd.f50 2 sh50_2 w50_2
noncomputable def F50 (g50_2 : sh50_2.den → Option (denX w50_2)) : (SV.denL ps50) → Option (rs50).den := runFn tb [] [(2, lp sh50_2 w50_2 g50_2)] Tryd.f50 ps50 rs50
theorem call50 {F123 : (SV.denL ps123) → Option (rs123).den} {F124 : (SV.denL ps124) → Option (rs124).den} {g50_2 : sh50_2.den → Option (denX w50_2)} (h123 : CallOK Tryd.prog 123 (mkCall ps123 rs123 F123)) (h124 : CallOK Tryd.prog 124 (mkCall ps124 rs124 F124)) (hg50_2 : Lim (S50_2 F123 F124) g50_2) : CallOK Tryd.prog 50 (mkCall ps50 rs50 (F50 g50_2)) :=
  runFn_ok mixed tabOK (Δ := []) trivial ⟨Tryd.func50, rfl, by kernel_rfl, by kernel_rfl, by kernel_rfl, by kernel_rfl⟩ rfl (loopsAt_zip (cs := [.loop (loopOf Tryd.f50 2)]) (by kernel_rfl) (by kernel_rfl) (by kernel_rfl) ⟨stepLim_ok mixed tabOK (Δ := [(123, mkCall ps123 rs123 F123), (124, mkCall ps124 rs124 F124)]) ⟨.inl h123, .inl h124, trivial⟩ hg50_2 (loopsAt_zip (Λ := []) (cs := []) (by kernel_rfl) (by kernel_rfl) (by kernel_rfl) trivial), trivial⟩)
/-! 15 (*bowline/sorting.Queue).Pop -/
abbrev psh15q : Shape := ⟨[(0, .pt 0 0)], [.box 90 [.rf 1, .d false tI], .row tEn 96]⟩
abbrev m15q : List Nat := [0]
abbrev rs15q : Shape := ⟨[(0, .pt 0 0), (1, .d true tIt), (2, .d false tI)], [.box 90 [.rf 1, .d false tI], .row tEn 96]⟩
abbrev sh15q_12 : Shape := ⟨[(0, .pt 0 0), (2, .pt 1 0), (4, .pt 2 0), (6, .d false tI), (7, .d false tI), (8, .d false tI), (56, .d false tI)], [.box 90 [.rf 3, .d false tI], .box 33 [.d false tI, .d false tI], .box 33 [.d false tI, .d false tI], .row tEn 96]⟩
abbrev w15q_12 : List Way := [(some 2, ⟨[(0, .pt 0 0), (2, .pt 1 0), (4, .pt 2 0), (6, .d false tI), (7, .d false tI), (8, .d false tI)], [.box 90 [.rf 3, .d false tI], .box 33 [.d false tI, .d false tI], .box 33 [.d false tI, .d false tI], .row tEn 96]⟩)]
abbrev sh15q_10 : Shape := ⟨[(0, .pt 0 0), (2, .pt 1 0), (4, .pt 2 0), (6, .d false tI), (7, .d false tI)], [.box 90 [.rf 3, .d false tI], .box 33 [.d false tI, .d false tI], .box 33 [.d false tI, .d false tI], .row tEn 96]⟩
abbrev w15q_10 : List Way := [(none, ⟨[(0, .pt 0 0), (2, .pt 1 0), (3, .d false tI)], [.box 90 [.rf 2, .d false tI], .box 33 [.d false tI, .d false tI], .row tEn 96]⟩)]
noncomputable def S15q_12 (F50 : (SV.denL ps50) → Option (rs50).den) : sh15q_12.den → Option (sh15q_12.den ⊕ denX w15q_12) := stepFn tb [(50, mkCall ps50 rs50 F50)] [] (roundOk (upTo 117) (rangeN 0 1)) Tryd.f15 12 sh15q_12 w15q_12
noncomputable def S15q_10 (g15q_12 : sh15q_12.den → Option (denX w15q_12)) : sh15q_10.den → Option (sh15q_10.den ⊕ denX w15q_10) := stepFn tb [] [(12, lp sh15q_12 w15q_12 g15q_12)] (roundOk (upTo 117) (rangeN 0 1)) Tryd.f15 10 sh15q_10 w15q_10
noncomputable def F15q (F17q : (psh17q.den) → Option (rs17q).den) (g15q_10 : sh15q_10.den → Option (denX w15q_10)) : (psh15q.den) → Option (rs15q).den := runFnB tb [(17, mkCallB psh17q rs17q m17q 1 F17q)] [(10, lp sh15q_10 w15q_10 g15q_10)] Tryd.f15 psh15q rs15q 1
theorem call15q {F17q : (psh17q.den) → Option (rs17q).den} {F50 : (SV.denL ps50) → Option (rs50).den} {g15q_12 : sh15q_12.den → Option (denX w15q_12)} {g15q_10 : sh15q_10.den → Option (denX w15q_10)} (h17q : CallOK Tryd.prog 17 (mkCallB psh17q rs17q m17q 1 F17q)) (h50 : CallOK Tryd.prog 50 (mkCall ps50 rs50 F50)) (hg15q_12 : Lim (S15q_12 F50) g15q_12) (hg15q_10 : Lim (S15q_10 g15q_12) g15q_10) : CallOK Tryd.prog 15 (mkCallB psh15q rs15q m15q 1 (F15q F17q g15q_10)) :=
  runFnB_ok mixed tabOK (Δ := [(17, mkCallB psh17q rs17q m17q 1 F17q)]) ⟨.inl h17q, trivial⟩ ⟨Tryd.func15, rfl, by kernel_rfl, by kernel_rfl, by kernel_rfl, by kernel_rfl, by kernel_rfl, by kernel_rfl, by kernel_rfl, by kernel_rfl, by kernel_rfl⟩ rfl (loopsAt_zip (cs := [.loop (loopOf Tryd.f15 10)]) (by kernel_rfl) (by kernel_rfl) (by kernel_rfl) ⟨stepLim_ok mixed tabOK (Δ := []) trivial hg15q_10 (loopsAt_zip (cs := [.loop (loopOf Tryd.f15 12)]) (by kernel_rfl) (by kernel_rfl) (by kernel_rfl) ⟨stepLim_ok mixed tabOK (Δ := [(50, mkCall ps50 rs50 F50)]) ⟨.inl h50, trivial⟩ hg15q_12 (loopsAt_zip (Λ := []) (cs := []) (by kernel_rfl) (by kernel_rfl) (by kernel_rfl) trivial), trivial⟩), trivial⟩)
/-! 22 bowline/bowlinelaw36.given -/
abbrev ps22 : List SV := [.d false (.sl tIt)]
abbrev rs22 : Shape := ⟨[(0, .d false (.sl tIt))], []⟩
abbrev sh22_3 : Shape := ⟨[(3, .rf 0), (6, .d false (.sl tIt)), (7, .d false tI), (8, .d false tI)], [.row tIt 33]⟩
abbrev w22_3 : List Way := [(some 0, ⟨[(3, .rf 0)], [.row tIt 33]⟩)]
noncomputable def S22_3 : sh22_3.den → Option (sh22_3.den ⊕ denX w22_3) := stepFn tb [] [] (upTo 18) Tryd.f22 3 sh22_3 w22_3
noncomputable def F22 (g22_3 : sh22_3.den → Option (denX w22_3)) : (SV.denL ps22) → Option (rs22).den := runFn tb [] [(3, lp sh22_3 w22_3 g22_3)] Tryd.f22 ps22 rs22
theorem call22 {g22_3 : sh22_3.den → Option (denX w22_3)} (hg22_3 : Lim (S22_3) g22_3) : CallOK Tryd.prog 22 (mkCall ps22 rs22 (F22 g22_3)) :=
  runFn_ok mixed tabOK (Δ := []) trivial ⟨Tryd.func22, rfl, by kernel_rfl, by kernel_rfl, by kernel_rfl, by kernel_rfl⟩ rfl (loopsAt_zip (cs := [.loop (loopOf Tryd.f22 3)]) (by kernel_rfl) (by kernel_rfl) (by kernel_rfl) ⟨stepLim_ok mixed tabOK (Δ := []) trivial hg22_3 (loopsAt_zip (Λ := []) (cs := []) (by kernel_rfl) (by kernel_rfl) (by kernel_rfl) trivial), trivial⟩)
/-! 25 bowline/bowlinelaw36.same -/
abbrev ps25 : List SV := [.d false (.sl tIt), .d false (.sl tIt)]
abbrev rs25 : Shape := ⟨[(0, .d false .bool)], []⟩
abbrev sh25_4 : Shape := ⟨[(1, .d false (.sl tIt)), (12, .d false (.sl tIt)), (13, .d false tI), (14, .d false tI)], []⟩
abbrev w25_4 : List Way := [(none, ⟨[(4, .d false .bool)], []⟩), (some 0, ⟨[], []⟩)]
noncomputable def S25_4 : sh25_4.den → Option (sh25_4.den ⊕ denX w25_4) := stepFn tb [] [] (upTo 26) Tryd.f25 4 sh25_4 w25_4
noncomputable def F25 (g25_4 : sh25_4.den → Option (denX w25_4)) : (SV.denL ps25) → Option (rs25).den := runFn tb [] [(4, lp sh25_4 w25_4 g25_4)] Tryd.f25 ps25 rs25
theorem call25 {g25_4 : sh25_4.den → Option (denX w25_4)} (hg25_4 : Lim (S25_4) g25_4) : CallOK Tryd.prog 25 (mkCall ps25 rs25 (F25 g25_4)) :=
  runFn_ok mixed tabOK (Δ := []) trivial ⟨Tryd.func25, rfl, by kernel_rfl, by kernel_rfl, by kernel_rfl, by kernel_rfl⟩ rfl (loopsAt_zip (cs := [.loop (loopOf Tryd.f25 4)]) (by kernel_rfl) (by kernel_rfl) (by kernel_rfl) ⟨stepLim_ok mixed tabOK (Δ := []) trivial hg25_4 (loopsAt_zip (Λ := []) (cs := []) (by kernel_rfl) (by kernel_rfl) (by kernel_rfl) trivial), trivial⟩)
/-! 28 bowline/sorting.Mix -/
abbrev ps28 : List SV := [.d false tI, .d false tI]
abbrev rs28 : Shape := ⟨[(0, .d false (.int .u64))], []⟩
noncomputable def F28 : (SV.denL ps28) → Option (rs28).den := runFn tb [] [] Tryd.f28 ps28 rs28
theorem call28 : CallOK Tryd.prog 28 (mkCall ps28 rs28 (F28)) :=
  runFn_ok mixed tabOK (Δ := []) trivial ⟨Tryd.func28, rfl, by kernel_rfl, by kernel_rfl, by kernel_rfl, by kernel_rfl⟩ rfl (loopsAt_zip (Λ := []) (cs := []) (by kernel_rfl) (by kernel_rfl) (by kernel_rfl) trivial)
/-! 53 (bowline/sorting.Item).below -/
abbrev ps53 : List SV := [.d true tIt, .d true tIt]
abbrev rs53 : Shape := ⟨[(0, .d false .bool)], []⟩
noncomputable def F53 : (SV.denL ps53) → Option (rs53).den := runFn tb [] [] Tryd.f53 ps53 rs53
theorem call53 : CallOK Tryd.prog 53 (mkCall ps53 rs53 (F53)) :=
  runFn_ok mixed tabOK (Δ := []) trivial ⟨Tryd.func53, rfl, by kernel_rfl, by kernel_rfl, by kernel_rfl, by kernel_rfl⟩ rfl (loopsAt_zip (Λ := []) (cs := []) (by kernel_rfl) (by kernel_rfl) (by kernel_rfl) trivial)
/-! 52 bowline/sorting.merged[bowline/sorting.Item] -/
abbrev ps52 : List SV := [.d false (.sl tIt), .d false (.sl tIt), .d false (.fk 53)]
abbrev rs52 : Shape := ⟨[(0, .d false (.sl tIt))], []⟩
abbrev sh52_2 : Shape := ⟨[(0, .d false (.sl tIt)), (1, .d false (.sl tIt)), (2, .fn 53 []), (7, .rf 0)], [.row tIt 33]⟩
abbrev w52_2 : List Way := [(some 0, ⟨[(0, .d false (.sl tIt)), (1, .d false (.sl tIt)), (7, .rf 0)], [.row tIt 33]⟩)]
noncomputable def S52_2 (F53 : (SV.denL ps53) → Option (rs53).den) : sh52_2.den → Option (sh52_2.den ⊕ denX w52_2) := stepFn tb [(53, mkCall ps53 rs53 F53)] [] (upTo 51) Tryd.f52 2 sh52_2 w52_2
noncomputable def F52 (g52_2 : sh52_2.den → Option (denX w52_2)) : (SV.denL ps52) → Option (rs52).den := runFn tb [] [(2, lp sh52_2 w52_2 g52_2)] Tryd.f52 ps52 rs52
theorem call52 {F53 : (SV.denL ps53) → Option (rs53).den} {g52_2 : sh52_2.den → Option (denX w52_2)} (h53 : CallOK Tryd.prog 53 (mkCall ps53 rs53 F53)) (hg52_2 : Lim (S52_2 F53) g52_2) : CallOK Tryd.prog 52 (mkCall ps52 rs52 (F52 g52_2)) :=
  runFn_ok mixed tabOK (Δ := []) trivial ⟨Tryd.func52, rfl, by kernel_rfl, by kernel_rfl, by kernel_rfl, by kernel_rfl⟩ rfl (loopsAt_zip (cs := [.loop (loopOf Tryd.f52 2)]) (by kernel_rfl) (by kernel_rfl) (by kernel_rfl) ⟨stepLim_ok mixed tabOK (Δ := [(53, mkCall ps53 rs53 F53)]) ⟨.inl h53, trivial⟩ hg52_2 (loopsAt_zip (Λ := []) (cs := []) (by kernel_rfl) (by kernel_rfl) (by kernel_rfl) trivial), trivial⟩)
/-! 74 slices.Clone[[]bowline/sorting.Item,bowline/sorting.Item] -/
abbrev ps74 : List SV := [.d false (.sl tIt)]
abbrev rs74 : Shape := ⟨[(0, .d false (.sl tIt))], []⟩
noncomputable def F74 : (SV.denL ps74) → Option (rs74).den := runFn tb [] [] Tryd.f74 ps74 rs74
theorem call74 : CallOK Tryd.prog 74 (mkCall ps74 rs74 (F74)) :=
  runFn_ok mixed tabOK (Δ := []) trivial ⟨Tryd.func74, rfl, by kernel_rfl, by kernel_rfl, by kernel_rfl, by kernel_rfl⟩ rfl (loopsAt_zip (Λ := []) (cs := []) (by kernel_rfl) (by kernel_rfl) (by kernel_rfl) trivial)
/-! 56 bowline/sorting.ordered[bowline/sorting.Item] -/
abbrev ps56 : List SV := [.d false (.sl tIt), .d false (.fk 53)]
abbrev rs56 : Shape := ⟨[(0, .d false (.sl tIt))], []⟩
noncomputable def F56 (F52 : (SV.denL ps52) → Option (rs52).den) (R56 : (SV.denL ps56) → Option (rs56).den) (F74 : (SV.denL ps74) → Option (rs74).den) : (SV.denL ps56) → Option (rs56).den := runFn tb [(52, mkCall ps52 rs52 F52), (56, mkCall ps56 rs56 R56), (74, mkCall ps74 rs74 F74)] [] Tryd.f56 ps56 rs56
theorem call56 {F52 : (SV.denL ps52) → Option (rs52).den} {R56 : (SV.denL ps56) → Option (rs56).den} {F74 : (SV.denL ps74) → Option (rs74).den} (h52 : CallOK Tryd.prog 52 (mkCall ps52 rs52 F52)) (h56 : CallOK Tryd.prog 56 (mkCall ps56 rs56 R56)) (h74 : CallOK Tryd.prog 74 (mkCall ps74 rs74 F74)) : CallOK Tryd.prog 56 (mkCall ps56 rs56 (F56 F52 R56 F74)) :=
  runFn_ok mixed tabOK (Δ := [(52, mkCall ps52 rs52 F52), (56, mkCall ps56 rs56 R56), (74, mkCall ps74 rs74 F74)]) ⟨.inl h52, .inl h56, .inl h74, trivial⟩ ⟨Tryd.func56, rfl, by kernel_rfl, by kernel_rfl, by kernel_rfl, by kernel_rfl⟩ rfl (loopsAt_zip (Λ := []) (cs := []) (by kernel_rfl) (by kernel_rfl) (by kernel_rfl) trivial)
/-! 30 bowline/sorting.Stable -/
abbrev ps30 : List SV := [.d false (.sl tIt)]
abbrev rs30 : Shape := ⟨[(0, .d false (.sl tIt))], []⟩
noncomputable def F30 (F56 : (SV.denL ps56) → Option (rs56).den) : (SV.denL ps30) → Option (rs30).den := runFn tb [(56, mkCall ps56 rs56 F56)] [] Tryd.f30 ps30 rs30
theorem call30 {F56 : (SV.denL ps56) → Option (rs56).den} (h56 : CallOK Tryd.prog 56 (mkCall ps56 rs56 F56)) : CallOK Tryd.prog 30 (mkCall ps30 rs30 (F30 F56)) :=
  runFn_ok mixed tabOK (Δ := [(56, mkCall ps56 rs56 F56)]) ⟨.inl h56, trivial⟩ ⟨Tryd.func30, rfl, by kernel_rfl, by kernel_rfl, by kernel_rfl, by kernel_rfl⟩ rfl (loopsAt_zip (Λ := []) (cs := []) (by kernel_rfl) (by kernel_rfl) (by kernel_rfl) trivial)
/-! 34 bowline/sorting.NewTreap -/
abbrev ps34 : List SV := [.d false tI]
abbrev rs34 : Shape := ⟨[(0, .pt 0 0)], [.box 108 [.d false tR, .d false tI, .mp 1], .map tI false tI]⟩
noncomputable def F34 : (SV.denL ps34) → Option (rs34).den := runFn tb [] [] Tryd.f34 ps34 rs34
theorem call34 : CallOK Tryd.prog 34 (mkCall ps34 rs34 (F34)) :=
  runFn_ok mixed tabOK (Δ := []) trivial ⟨Tryd.func34, rfl, by kernel_rfl, by kernel_rfl, by kernel_rfl, by kernel_rfl⟩ rfl (loopsAt_zip (Λ := []) (cs := []) (by kernel_rfl) (by kernel_rfl) (by kernel_rfl) trivial)
/-! 57 (*bowline/sorting.node).count -/
abbrev ps57 : List SV := [.d false tR]
abbrev rs57 : Shape := ⟨[(0, .d false tI)], []⟩
noncomputable def F57 : (SV.denL ps57) → Option (rs57).den := runFn tb [] [] Tryd.f57 ps57 rs57
theorem call57 : CallOK Tryd.prog 57 (mkCall ps57 rs57 (F57)) :=
  runFn_ok mixed tabOK (Δ := []) trivial ⟨Tryd.func57, rfl, by kernel_rfl, by kernel_rfl, by kernel_rfl, by kernel_rfl⟩ rfl (loopsAt_zip (Λ := []) (cs := []) (by kernel_rfl) (by kernel_rfl) (by kernel_rfl) trivial)
/-! 75 (*bowline/sorting.node).with -/
abbrev ps75 : List SV := [.d false tR, .d false tR, .d false tR]
abbrev rs75 : Shape := ⟨[(0, .d false tR)], []⟩
noncomputable def F75 (F57 : (SV.denL ps57) → Option (rs57).den) : (SV.denL ps75) → Option (rs75).den := runFn tb [(57, mkCall ps57 rs57 F57)] [] Tryd.f75 ps75 rs75
theorem call75 {F57 : (SV.denL ps57) → Option (rs57).den} (h57 : CallOK Tryd.prog 57 (mkCall ps57 rs57 F57)) : CallOK Tryd.prog 75 (mkCall ps75 rs75 (F75 F57)) :=
  runFn_ok mixed tabOK (Δ := [(57, mkCall ps57 rs57 F57)]) ⟨.inl h57, trivial⟩ ⟨Tryd.func75, rfl, by kernel_rfl, by kernel_rfl, by kernel_rfl, by kernel_rfl⟩ rfl (loopsAt_zip (Λ := []) (cs := []) (by kernel_rfl) (by kernel_rfl) (by kernel_rfl) trivial)
/-! 58 (*bowline/sorting.node).split -/
abbrev ps58 : List SV := [.d false tR, .d false tI]
abbrev rs58 : Shape := ⟨[(0, .d false tR), (1, .d false tR)], []⟩
noncomputable def F58 (R58 : (SV.denL ps58) → Option (rs58).den) (F75 : (SV.denL ps75) → Option (rs75).den) : (SV.denL ps58) → Option (rs58).den := runFn tb [(58, mkCall ps58 rs58 R58), (75, mkCall ps75 rs75 F75)] [] Tryd.f58 ps58 rs58
theorem call58 {R58 : (SV.denL ps58) → Option (rs58).den} {F75 : (SV.denL ps75) → Option (rs75).den} (h58 : CallOK Tryd.prog 58 (mkCall ps58 rs58 R58)) (h75 : CallOK Tryd.prog 75 (mkCall ps75 rs75 F75)) : CallOK Tryd.prog 58 (mkCall ps58 rs58 (F58 R58 F75)) :=
  runFn_ok mixed tabOK (Δ := [(58, mkCall ps58 rs58 R58), (75, mkCall ps75 rs75 F75)]) ⟨.inl h58, .inl h75, trivial⟩ ⟨Tryd.func58, rfl, by kernel_rfl, by kernel_rfl, by kernel_rfl, by kernel_rfl⟩ rfl (loopsAt_zip (Λ := []) (cs := []) (by kernel_rfl) (by kernel_rfl) (by kernel_rfl) trivial)
/-! 82 (*bowline/sorting.node).above -/
abbrev ps82 : List SV := [.d false tR, .d false tR]
abbrev rs82 : Shape := ⟨[(0, .d false .bool)], []⟩
noncomputable def F82 : (SV.denL ps82) → Option (rs82).den := runFn tb [] [] Tryd.f82 ps82 rs82
theorem call82 : CallOK Tryd.prog 82 (mkCall ps82 rs82 (F82)) :=
  runFn_ok mixed tabOK (Δ := []) trivial ⟨Tryd.func82, rfl, by kernel_rfl, by kernel_rfl, by kernel_rfl, by kernel_rfl⟩ rfl (loopsAt_zip (Λ := []) (cs := []) (by kernel_rfl) (by kernel_rfl) (by kernel_rfl) trivial)
/-! 76 bowline/sorting.higher -/
abbrev ps76 : List SV := [.d false tR, .d false tR]
abbrev rs76 : Shape := ⟨[(0, .d false .bool)], []⟩
noncomputable def F76 (F82 : (SV.denL ps82) → Option (rs82).den) : (SV.denL ps76) → Option (rs76).den := runFn tb [(82, mkCall ps82 rs82 F82)] [] Tryd.f76 ps76 rs76
theorem call76 {F82 : (SV.denL ps82) → Option (rs82).den} (h82 : CallOK Tryd.prog 82 (mkCall ps82 rs82 F82)) : CallOK Tryd.prog 76 (mkCall ps76 rs76 (F76 F82)) :=
  runFn_ok mixed tabOK (Δ := [(82, mkCall ps82 rs82 F82)]) ⟨.inl h82, trivial⟩ ⟨Tryd.func76, rfl, by kernel_rfl, by kernel_rfl, by kernel_rfl, by kernel_rfl⟩ rfl (loopsAt_zip (Λ := []) (cs := []) (by kernel_rfl) (by kernel_rfl) (by kernel_rfl) trivial)
/-! 59 bowline/sorting.join -/
abbrev ps59 : List SV := [.d false tR, .d false tR]
abbrev rs59 : Shape := ⟨[(0, .d false tR)], []⟩
noncomputable def F59 (R59 : (SV.denL ps59) → Option (rs59).den) (F75 : (SV.denL ps75) → Option (rs75).den) (F76 : (SV.denL ps76) → Option (rs76).den) : (SV.denL ps59) → Option (rs59).den := runFn tb [(59, mkCall ps59 rs59 R59), (75, mkCall ps75 rs75 F75), (76, mkCall ps76 rs76 F76)] [] Tryd.f59 ps59 rs59
theorem call59 {R59 : (SV.denL ps59) → Option (rs59).den} {F75 : (SV.denL ps75) → Option (rs75).den} {F76 : (SV.denL ps76) → Option (rs76).den} (h59 : CallOK Tryd.prog 59 (mkCall ps59 rs59 R59)) (h75 : CallOK Tryd.prog 75 (mkCall ps75 rs75 F75)) (h76 : CallOK Tryd.prog 76 (mkCall ps76 rs76 F76)) : CallOK Tryd.prog 59 (mkCall ps59 rs59 (F59 R59 F75 F76)) :=
  runFn_ok mixed tabOK (Δ := [(59, mkCall ps59 rs59 R59), (75, mkCall ps75 rs75 F75), (76, mkCall ps76 rs76 F76)]) ⟨.inl h59, .inl h75, .inl h76, trivial⟩ ⟨Tryd.func59, rfl, by kernel_rfl, by kernel_rfl, by kernel_rfl, by kernel_rfl⟩ rfl (loopsAt_zip (Λ := []) (cs := []) (by kernel_rfl) (by kernel_rfl) (by kernel_rfl) trivial)
/-! 35 (*bowline/sorting.Treap).Put -/
abbrev psh35t : Shape := ⟨[(0, .pt 0 0), (1, .d false tI), (2, .d false tI)], [.box 108 [.d false tR, .d false tI, .mp 1], .map tI false tI]⟩
abbrev m35t : List Nat := [0]
abbrev rs35t : Shape := ⟨[(0, .pt 0 0), (1, .d false tI), (2, .d false tI), (3, .d false .bool), (4, .d false tI)], [.box 108 [.d false tR, .d false tI, .mp 1], .map tI false tI]⟩
noncomputable def F35t (F28 : (SV.denL ps28) → Option (rs28).den) (F57 : (SV.denL ps57) → Option (rs57).den) (F58 : (SV.denL ps58) → Option (rs58).den) (F59 : (SV.denL ps59) → Option (rs59).den) : (psh35t.den) → Option (rs35t).den := runFnB tb [(28, mkCall ps28 rs28 F28), (57, mkCall ps57 rs57 F57), (58, mkCall ps58 rs58 F58), (59, mkCall ps59 rs59 F59)] [] Tryd.f35 psh35t rs35t 3
theorem call35t {F28 : (SV.denL ps28) → Option (rs28).den} {F57 : (SV.denL ps57) → Option (rs57).den} {F58 : (SV.denL ps58) → Option (rs58).den} {F59 : (SV.denL ps59) → Option (rs59).den} (h28 : CallOK Tryd.prog 28 (mkCall ps28 rs28 F28)) (h57 : CallOK Tryd.prog 57 (mkCall ps57 rs57 F57)) (h58 : CallOK Tryd.prog 58 (mkCall ps58 rs58 F58)) (h59 : CallOK Tryd.prog 59 (mkCall ps59 rs59 F59)) : CallOK Tryd.prog 35 (mkCallB psh35t rs35t m35t 3 (F35t F28 F57 F58 F59)) :=
  runFnB_ok mixed tabOK (Δ := [(28, mkCall ps28 rs28 F28), (57, mkCall ps57 rs57 F57), (58, mkCall ps58 rs58 F58), (59, mkCall ps59 rs59 F59)]) ⟨.inl h28, .inl h57, .inl h58, .inl h59, trivial⟩ ⟨Tryd.func35, rfl, by kernel_rfl, by kernel_rfl, by kernel_rfl, by kernel_rfl, by kernel_rfl, by kernel_rfl, by kernel_rfl, by kernel_rfl, by kernel_rfl⟩ rfl (loopsAt_zip (Λ := []) (cs := []) (by kernel_rfl) (by kernel_rfl) (by kernel_rfl) trivial)
/-! 60 (*bowline/sorting.Treap).or -/
abbrev psh60t : Shape := ⟨[(0, .pt 0 0)], [.box 108 [.d false tR, .d false tI, .mp 1], .map tI false tI]⟩
abbrev m60t : List Nat := [0]
abbrev rs60t : Shape := ⟨[(0, .pt 0 0), (1, .pt 0 0)], [.box 108 [.d false tR, .d false tI, .mp 1], .map tI false tI]⟩
noncomputable def F60t (F34 : (SV.denL ps34) → Option (rs34).den) : (psh60t.den) → Option (rs60t).den := runFnB tb [(34, mkCall ps34 rs34 F34)] [] Tryd.f60 psh60t rs60t 1
theorem call60t {F34 : (SV.denL ps34) → Option (rs34).den} (h34 : CallOK Tryd.prog 34 (mkCall ps34 rs34 F34)) : CallOK Tryd.prog 60 (mkCallB psh60t rs60t m60t 1 (F60t F34)) :=
  runFnB_ok mixed tabOK (Δ := [(34, mkCall ps34 rs34 F34)]) ⟨.inl h34, trivial⟩ ⟨Tryd.func60, rfl, by kernel_rfl, by kernel_rfl, by kernel_rfl, by kernel_rfl, by kernel_rfl, by kernel_rfl, by kernel_rfl, by kernel_rfl, by kernel_rfl⟩ rfl (loopsAt_zip (Λ := []) (cs := []) (by kernel_rfl) (by kernel_rfl) (by kernel_rfl) trivial)
/-! 83 (*strings.Builder).copyCheck -/
abbrev psh83u : Shape := ⟨[(0, .pt 0 0)], [.box 119 [.pt 0 0, .rf 1], .row (.int .u8) 5]⟩
abbrev m83u : List Nat := [0]
abbrev rs83u : Shape := ⟨[(0, .pt 0 0)], [.box 119 [.pt 0 0, .rf 1], .row (.int .u8) 5]⟩
noncomputable def F83u : (psh83u.den) → Option (rs83u).den := runFnB tb [(89, sameO)] [] Tryd.f83 psh83u rs83u 1
theorem call83u : CallOK Tryd.prog 83 (mkCallB psh83u rs83u m83u 1 (F83u)) :=
  runFnB_ok mixed tabOK (Δ := [(89, sameO)]) ⟨.inr ext89, trivial⟩ ⟨Tryd.func83, rfl, by kernel_rfl, by kernel_rfl, by kernel_rfl, by kernel_rfl, by kernel_rfl, by kernel_rfl, by kernel_rfl, by kernel_rfl, by kernel_rfl⟩ rfl (loopsAt_zip (Λ := []) (cs := []) (by kernel_rfl) (by kernel_rfl) (by kernel_rfl) trivial)
/-! 77 (*strings.Builder).WriteByte -/
abbrev psh77u : Shape := ⟨[(0, .pt 0 0), (1, .d false (.int .u8))], [.box 119 [.pt 0 0, .rf 1], .row (.int .u8) 5]⟩
abbrev m77u : List Nat := [0]
abbrev rs77u : Shape := ⟨[(0, .pt 0 0), (1, .d false (.int .u8)), (2, .d false .ic)], [.box 119 [.pt 0 0, .rf 1], .row (.int .u8) 5]⟩
noncomputable def F77u (F83u : (psh83u.den) → Option (rs83u).den) : (psh77u.den) → Option (rs77u).den := runFnB tb [(83, mkCallB psh83u rs83u m83u 1 F83u)] [] Tryd.f77 psh77u rs77u 2
theorem call77u {F83u : (psh83u.den) → Option (rs83u).den} (h83u : CallOK Tryd.prog 83 (mkCallB psh83u rs83u m83u 1 F83u)) : CallOK Tryd.prog 77 (mkCallB psh77u rs77u m77u 2 (F77u F83u)) :=
  runFnB_ok mixed tabOK (Δ := [(83, mkCallB psh83u rs83u m83u 1 F83u)]) ⟨.inl h83u, trivial⟩ ⟨Tryd.func77, rfl, by kernel_rfl, by kernel_rfl, by kernel_rfl, by kernel_rfl, by kernel_rfl, by kernel_rfl, by kernel_rfl, by kernel_rfl, by kernel_rfl⟩ rfl (loopsAt_zip (Λ := []) (cs := []) (by kernel_rfl) (by kernel_rfl) (by kernel_rfl) trivial)
/-! 78 (*strings.Builder).WriteString -/
abbrev psh78u : Shape := ⟨[(0, .pt 0 0), (1, .d false .str)], [.box 119 [.pt 0 0, .rf 1], .row (.int .u8) 5]⟩
abbrev m78u : List Nat := [0]
abbrev rs78u : Shape := ⟨[(0, .pt 0 0), (1, .d false .str), (2, .d false tI), (3, .d false .ic)], [.box 119 [.pt 0 0, .rf 1], .row (.int .u8) 5]⟩
noncomputable def F78u (F83u : (psh83u.den) → Option (rs83u).den) : (psh78u.den) → Option (rs78u).den := runFnB tb [(83, mkCallB psh83u rs83u m83u 1 F83u)] [] Tryd.f78 psh78u rs78u 2
theorem call78u {F83u : (psh83u.den) → Option (rs83u).den} (h83u : CallOK Tryd.prog 83 (mkCallB psh83u rs83u m83u 1 F83u)) : CallOK Tryd.prog 78 (mkCallB psh78u rs78u m78u 2 (F78u F83u)) :=
  runFnB_ok mixed tabOK (Δ := [(83, mkCallB psh83u rs83u m83u 1 F83u)]) ⟨.inl h83u, trivial⟩ ⟨Tryd.func78, rfl, by kernel_rfl, by kernel_rfl, by kernel_rfl, by kernel_rfl, by kernel_rfl, by kernel_rfl, by kernel_rfl, by kernel_rfl, by kernel_rfl⟩ rfl (loopsAt_zip (Λ := []) (cs := []) (by kernel_rfl) (by kernel_rfl) (by kernel_rfl) trivial)
/-! 95 internal/strconv.small -/
abbrev ps95 : List SV := [.d false tI]
abbrev rs95 : Shape := ⟨[(0, .d false .str)], []⟩
noncomputable def F95 : (SV.denL ps95) → Option (rs95).den := runFn tb [] [] Tryd.f95 ps95 rs95
theorem call95 : CallOK Tryd.prog 95 (mkCall ps95 rs95 (F95)) :=
  runFn_ok mixed tabOK (Δ := []) trivial ⟨Tryd.func95, rfl, by kernel_rfl, by kernel_rfl, by kernel_rfl, by kernel_rfl⟩ rfl (loopsAt_zip (Λ := []) (cs := []) (by kernel_rfl) (by kernel_rfl) (by kernel_rfl) trivial)
/-! 93 internal/strconv.FormatInt -/
abbrev ps93 : List SV := [.d false tI, .d false tI]
abbrev rs93 : Shape := ⟨[(0, .d false .str)], []⟩
noncomputable def F93 (F95 : (SV.denL ps95) → Option (rs95).den) : (SV.denL ps93) → Option (rs93).den := runFn tb [(95, mkCall ps95 rs95 F95)] [] Tryd.f93 ps93 rs93
theorem call93 {F95 : (SV.denL ps95) → Option (rs95).den} (h95 : CallOK Tryd.prog 95 (mkCall ps95 rs95 F95)) : CallOK Tryd.prog 93 (mkCall ps93 rs93 (F93 F95)) :=
  runFn_ok mixed tabOK (Δ := [(95, mkCall ps95 rs95 F95)]) ⟨.inl h95, trivial⟩ ⟨Tryd.func93, rfl, by kernel_rfl, by kernel_rfl, by kernel_rfl, by kernel_rfl⟩ rfl (loopsAt_zip (Λ := []) (cs := []) (by kernel_rfl) (by kernel_rfl) (by kernel_rfl) trivial)
/-! 90 internal/strconv.Itoa -/
abbrev ps90 : List SV := [.d false tI]
abbrev rs90 : Shape := ⟨[(0, .d false .str)], []⟩
noncomputable def F90 (F93 : (SV.denL ps93) → Option (rs93).den) : (SV.denL ps90) → Option (rs90).den := runFn tb [(93, mkCall ps93 rs93 F93)] [] Tryd.f90 ps90 rs90
theorem call90 {F93 : (SV.denL ps93) → Option (rs93).den} (h93 : CallOK Tryd.prog 93 (mkCall ps93 rs93 F93)) : CallOK Tryd.prog 90 (mkCall ps90 rs90 (F90 F93)) :=
  runFn_ok mixed tabOK (Δ := [(93, mkCall ps93 rs93 F93)]) ⟨.inl h93, trivial⟩ ⟨Tryd.func90, rfl, by kernel_rfl, by kernel_rfl, by kernel_rfl, by kernel_rfl⟩ rfl (loopsAt_zip (Λ := []) (cs := []) (by kernel_rfl) (by kernel_rfl) (by kernel_rfl) trivial)
/-! 84 strconv.Itoa -/
abbrev ps84 : List SV := [.d false tI]
abbrev rs84 : Shape := ⟨[(0, .d false .str)], []⟩
noncomputable def F84 (F90 : (SV.denL ps90) → Option (rs90).den) : (SV.denL ps84) → Option (rs84).den := runFn tb [(90, mkCall ps90 rs90 F90)] [] Tryd.f84 ps84 rs84
theorem call84 {F90 : (SV.denL ps90) → Option (rs90).den} (h90 : CallOK Tryd.prog 90 (mkCall ps90 rs90 F90)) : CallOK Tryd.prog 84 (mkCall ps84 rs84 (F84 F90)) :=
  runFn_ok mixed tabOK (Δ := [(90, mkCall ps90 rs90 F90)]) ⟨.inl h90, trivial⟩ ⟨Tryd.func84, rfl, by kernel_rfl, by kernel_rfl, by kernel_rfl, by kernel_rfl⟩ rfl (loopsAt_zip (Λ := []) (cs := []) (by kernel_rfl) (by kernel_rfl) (by kernel_rfl) trivial)
/-! 94 unicode/utf8.appendRuneNonASCII -/
abbrev psh94 : Shape := ⟨[(0, .rf 0), (1, .d false (.int .i32))], [.row (.int .u8) 5]⟩
abbrev m94 : List Nat := []
abbrev rs94 : Shape := ⟨[(0, .rf 0)], [.row (.int .u8) 5]⟩
noncomputable def F94 : (psh94.den) → Option (rs94).den := runFnB tb [] [] Tryd.f94 psh94 rs94 0
theorem call94 : CallOK Tryd.prog 94 (mkCallB psh94 rs94 m94 0 (F94)) :=
  runFnB_ok mixed tabOK (Δ := []) trivial ⟨Tryd.func94, rfl, by kernel_rfl, by kernel_rfl, by kernel_rfl, by kernel_rfl, by kernel_rfl, by kernel_rfl, by kernel_rfl, by kernel_rfl, by kernel_rfl⟩ rfl (loopsAt_zip (Λ := []) (cs := []) (by kernel_rfl) (by kernel_rfl) (by kernel_rfl) trivial)
/-! 91 unicode/utf8.AppendRune -/
abbrev psh91 : Shape := ⟨[(0, .rf 0), (1, .d false (.int .i32))], [.row (.int .u8) 5]⟩
abbrev m91 : List Nat := []
abbrev rs91 : Shape := ⟨[(0, .rf 0)], [.row (.int .u8) 5]⟩
noncomputable def F91 (F94 : (psh94.den) → Option (rs94).den) : (psh91.den) → Option (rs91).den := runFnB tb [(94, mkCallB psh94 rs94 m94 0 F94)] [] Tryd.f91 psh91 rs91 0
theorem call91 {F94 : (psh94.den) → Option (rs94).den} (h94 : CallOK Tryd.prog 94 (mkCallB psh94 rs94 m94 0 F94)) : CallOK Tryd.prog 91 (mkCallB psh91 rs91 m91 0 (F91 F94)) :=
  runFnB_ok mixed tabOK (Δ := [(94, mkCallB psh94 rs94 m94 0 F94)]) ⟨.inl h94, trivial⟩ ⟨Tryd.func91, rfl, by kernel_rfl, by kernel_rfl, by kernel_rfl, by kernel_rfl, by kernel_rfl, by kernel_rfl, by kernel_rfl, by kernel_rfl, by kernel_rfl⟩ rfl (loopsAt_zip (Λ := []) (cs := []) (by kernel_rfl) (by kernel_rfl) (by kernel_rfl) trivial)
/-! 85 (*strings.Builder).WriteRune -/
abbrev psh85u : Shape := ⟨[(0, .pt 0 0), (1, .d false (.int .i32))], [.box 119 [.pt 0 0, .rf 1], .row (.int .u8) 5]⟩
abbrev m85u : List Nat := [0]
abbrev rs85u : Shape := ⟨[(0, .pt 0 0), (1, .d false (.int .i32)), (2, .d false tI), (3, .d false .ic)], [.box 119 [.pt 0 0, .rf 1], .row (.int .u8) 5]⟩
noncomputable def F85u (F83u : (psh83u.den) → Option (rs83u).den) (F91 : (psh91.den) → Option (rs91).den) : (psh85u.den) → Option (rs85u).den := runFnB tb [(83, mkCallB psh83u rs83u m83u 1 F83u), (91, mkCallB psh91 rs91 m91 0 F91)] [] Tryd.f85 psh85u rs85u 2
theorem call85u {F83u : (psh83u.den) → Option (rs83u).den} {F91 : (psh91.den) → Option (rs91).den} (h83u : CallOK Tryd.prog 83 (mkCallB psh83u rs83u m83u 1 F83u)) (h91 : CallOK Tryd.prog 91 (mkCallB psh91 rs91 m91 0 F91)) : CallOK Tryd.prog 85 (mkCallB psh85u rs85u m85u 2 (F85u F83u F91)) :=
  runFnB_ok mixed tabOK (Δ := [(83, mkCallB psh83u rs83u m83u 1 F83u), (91, mkCallB psh91 rs91 m91 0 F91)]) ⟨.inl h83u, .inl h91, trivial⟩ ⟨Tryd.func85, rfl, by kernel_rfl, by kernel_rfl, by kernel_rfl, by kernel_rfl, by kernel_rfl, by kernel_rfl, by kernel_rfl, by kernel_rfl, by kernel_rfl⟩ rfl (loopsAt_zip (Λ := []) (cs := []) (by kernel_rfl) (by kernel_rfl) (by kernel_rfl) trivial)
/-! 79 bowline/sorting.number -/
abbrev psh79u : Shape := ⟨[(0, .pt 0 0), (1, .d false tI)], [.box 119 [.pt 0 0, .rf 1], .row (.int .u8) 5]⟩
abbrev m79u : List Nat := [0]
abbrev rs79u : Shape := ⟨[(0, .pt 0 0), (1, .d false tI)], [.box 119 [.pt 0 0, .rf 1], .row (.int .u8) 5]⟩
abbrev sh79u_1 : Shape := ⟨[(0, .pt 0 0), (1, .d false tI), (8, .pt 1 0)], [.box 119 [.pt 0 0, .rf 2], .it, .row (.int .u8) 5]⟩
abbrev w79u_1 : List Way := [(some 0, ⟨[(0, .pt 0 0), (1, .d false tI)], [.box 119 [.pt 0 0, .rf 1], .row (.int .u8) 5]⟩)]
noncomputable def S79u_1 (F85u : (psh85u.den) → Option (rs85u).den) : sh79u_1.den → Option (sh79u_1.den ⊕ denX w79u_1) := stepFn tb [(85, mkCallB psh85u rs85u m85u 2 F85u)] [] (roundOk (upTo 15) (rangeN 0 2)) Tryd.f79 1 sh79u_1 w79u_1
noncomputable def F79u (F84 : (SV.denL ps84) → Option (rs84).den) (g79u_1 : sh79u_1.den → Option (denX w79u_1)) : (psh79u.den) → Option (rs79u).den := runFnB tb [(84, mkCall ps84 rs84 F84)] [(1, lp sh79u_1 w79u_1 g79u_1)] Tryd.f79 psh79u rs79u 2
theorem call79u {F84 : (SV.denL ps84) → Option (rs84).den} {F85u : (psh85u.den) → Option (rs85u).den} {g79u_1 : sh79u_1.den → Option (denX w79u_1)} (h84 : CallOK Tryd.prog 84 (mkCall ps84 rs84 F84)) (h85u : CallOK Tryd.prog 85 (mkCallB psh85u rs85u m85u 2 F85u)) (hg79u_1 : Lim (S79u_1 F85u) g79u_1) : CallOK Tryd.prog 79 (mkCallB psh79u rs79u m79u 2 (F79u F84 g79u_1)) :=
  runFnB_ok mixed tabOK (Δ := [(84, mkCall ps84 rs84 F84)]) ⟨.inl h84, trivial⟩ ⟨Tryd.func79, rfl, by kernel_rfl, by kernel_rfl, by kernel_rfl, by kernel_rfl, by kernel_rfl, by kernel_rfl, by kernel_rfl, by kernel_rfl, by kernel_rfl⟩ rfl (loopsAt_zip (cs := [.loop (loopOf Tryd.f79 1)]) (by kernel_rfl) (by kernel_rfl) (by kernel_rfl) ⟨stepLim_ok mixed tabOK (Δ := [(85, mkCallB psh85u rs85u m85u 2 F85u)]) ⟨.inl h85u, trivial⟩ hg79u_1 (loopsAt_zip (Λ := []) (cs := []) (by kernel_rfl) (by kernel_rfl) (by kernel_rfl) trivial), trivial⟩)
/-! 61 (*bowline/sorting.node).write -/
abbrev psh61u : Shape := ⟨[(0, .d false tR), (1, .pt 0 0)], [.box 119 [.pt 0 0, .rf 1], .row (.int .u8) 5]⟩
abbrev m61u : List Nat := [0]
abbrev rs61u : Shape := ⟨[(0, .d false tR), (1, .pt 0 0)], [.box 119 [.pt 0 0, .rf 1], .row (.int .u8) 5]⟩
noncomputable def F61u (R61u : (psh61u.den) → Option (rs61u).den) (F77u : (psh77u.den) → Option (rs77u).den) (F78u : (psh78u.den) → Option (rs78u).den) (F79u : (psh79u.den) → Option (rs79u).den) : (psh61u.den) → Option (rs61u).den := runFnB tb [(61, mkCallB psh61u rs61u m61u 2 R61u), (77, mkCallB psh77u rs77u m77u 2 F77u), (78, mkCallB psh78u rs78u m78u 2 F78u), (79, mkCallB psh79u rs79u m79u 2 F79u)] [] Tryd.f61 psh61u rs61u 2
theorem call61u {R61u : (psh61u.den) → Option (rs61u).den} {F77u : (psh77u.den) → Option (rs77u).den} {F78u : (psh78u.den) → Option (rs78u).den} {F79u : (psh79u.den) → Option (rs79u).den} (h61u : CallOK Tryd.prog 61 (mkCallB psh61u rs61u m61u 2 R61u)) (h77u : CallOK Tryd.prog 77 (mkCallB psh77u rs77u m77u 2 F77u)) (h78u : CallOK Tryd.prog 78 (mkCallB psh78u rs78u m78u 2 F78u)) (h79u : CallOK Tryd.prog 79 (mkCallB psh79u rs79u m79u 2 F79u)) : CallOK Tryd.prog 61 (mkCallB psh61u rs61u m61u 2 (F61u R61u F77u F78u F79u)) :=
  runFnB_ok mixed tabOK (Δ := [(61, mkCallB psh61u rs61u m61u 2 R61u), (77, mkCallB psh77u rs77u m77u 2 F77u), (78, mkCallB psh78u rs78u m78u 2 F78u), (79, mkCallB psh79u rs79u m79u 2 F79u)]) ⟨.inl h61u, .inl h77u, .inl h78u, .inl h79u, trivial⟩ ⟨Tryd.func61, rfl, by kernel_rfl, by kernel_rfl, by kernel_rfl, by kernel_rfl, by kernel_rfl, by kernel_rfl, by kernel_rfl, by kernel_rfl, by kernel_rfl⟩ rfl (loopsAt_zip (Λ := []) (cs := []) (by kernel_rfl) (by kernel_rfl) (by kernel_rfl) trivial)
/-! 83 (*strings.Builder).copyCheck -/
abbrev psh83f : Shape := ⟨[(0, .pt 0 0)], [.box 119 [.np, .nl]]⟩
abbrev m83f : List Nat := [0]
abbrev rs83f : Shape := ⟨[(0, .pt 0 0)], [.box 119 [.pt 0 0, .nl]]⟩
noncomputable def F83f : (psh83f.den) → Option (rs83f).den := runFnB tb [(89, sameO)] [] Tryd.f83 psh83f rs83f 1
theorem call83f : CallOK Tryd.prog 83 (mkCallB psh83f rs83f m83f 1 (F83f)) :=
  runFnB_ok mixed tabOK (Δ := [(89, sameO)]) ⟨.inr ext89, trivial⟩ ⟨Tryd.func83, rfl, by kernel_rfl, by kernel_rfl, by kernel_rfl, by kernel_rfl, by kernel_rfl, by kernel_rfl, by kernel_rfl, by kernel_rfl, by kernel_rfl⟩ rfl (loopsAt_zip (Λ := []) (cs := []) (by kernel_rfl) (by kernel_rfl) (by kernel_rfl) trivial)
/-! 77 (*strings.Builder).WriteByte -/
abbrev psh77f : Shape := ⟨[(0, .pt 0 0), (1, .d false (.int .u8))], [.box 119 [.np, .nl]]⟩
abbrev m77f : List Nat := [0]
abbrev rs77f : Shape := ⟨[(0, .pt 0 0), (1, .d false (.int .u8)), (2, .d false .ic)], [.box 119 [.pt 0 0, .rf 1], .row (.int .u8) 5]⟩
noncomputable def F77f (F83f : (psh83f.den) → Option (rs83f).den) : (psh77f.den) → Option (rs77f).den := runFnB tb [(83, mkCallB psh83f rs83f m83f 1 F83f)] [] Tryd.f77 psh77f rs77f 2
theorem call77f {F83f : (psh83f.den) → Option (rs83f).den} (h83f : CallOK Tryd.prog 83 (mkCallB psh83f rs83f m83f 1 F83f)) : CallOK Tryd.prog 77 (mkCallB psh77f rs77f m77f 2 (F77f F83f)) :=
  runFnB_ok mixed tabOK (Δ := [(83, mkCallB psh83f rs83f m83f 1 F83f)]) ⟨.inl h83f, trivial⟩ ⟨Tryd.func77, rfl, by kernel_rfl, by kernel_rfl, by kernel_rfl, by kernel_rfl, by kernel_rfl, by kernel_rfl, by kernel_rfl, by kernel_rfl, by kernel_rfl⟩ rfl (loopsAt_zip (Λ := []) (cs := []) (by kernel_rfl) (by kernel_rfl) (by kernel_rfl) trivial)
/-! 78 (*strings.Builder).WriteString -/
abbrev psh78f : Shape := ⟨[(0, .pt 0 0), (1, .d false .str)], [.box 119 [.np, .nl]]⟩
abbrev m78f : List Nat := [0]
abbrev rs78f : Shape := ⟨[(0, .pt 0 0), (1, .d false .str), (2, .d false tI), (3, .d false .ic)], [.box 119 [.pt 0 0, .rf 1], .row (.int .u8) 5]⟩
noncomputable def F78f (F83f : (psh83f.den) → Option (rs83f).den) : (psh78f.den) → Option (rs78f).den := runFnB tb [(83, mkCallB psh83f rs83f m83f 1 F83f)] [] Tryd.f78 psh78f rs78f 2
theorem call78f {F83f : (psh83f.den) → Option (rs83f).den} (h83f : CallOK Tryd.prog 83 (mkCallB psh83f rs83f m83f 1 F83f)) : CallOK Tryd.prog 78 (mkCallB psh78f rs78f m78f 2 (F78f F83f)) :=
  runFnB_ok mixed tabOK (Δ := [(83, mkCallB psh83f rs83f m83f 1 F83f)]) ⟨.inl h83f, trivial⟩ ⟨Tryd.func78, rfl, by kernel_rfl, by kernel_rfl, by kernel_rfl, by kernel_rfl, by kernel_rfl, by kernel_rfl, by kernel_rfl, by kernel_rfl, by kernel_rfl⟩ rfl (loopsAt_zip (Λ := []) (cs := []) (by kernel_rfl) (by kernel_rfl) (by kernel_rfl) trivial)
/-! 61 (*bowline/sorting.node).write -/
abbrev psh61f : Shape := ⟨[(0, .d false tR), (1, .pt 0 0)], [.box 119 [.np, .nl]]⟩
abbrev m61f : List Nat := [0]
abbrev rs61f : Shape := ⟨[(0, .d false tR), (1, .pt 0 0)], [.box 119 [.pt 0 0, .rf 1], .row (.int .u8) 5]⟩
noncomputable def F61f (F61u : (psh61u.den) → Option (rs61u).den) (F77f : (psh77f.den) → Option (rs77f).den) (F77u : (psh77u.den) → Option (rs77u).den) (F78f : (psh78f.den) → Option (rs78f).den) (F78u : (psh78u.den) → Option (rs78u).den) (F79u : (psh79u.den) → Option (rs79u).den) : (psh61f.den) → Option (rs61f).den := runFnB tb [(61, mkCallB psh61u rs61u m61u 2 F61u), (77, orC (fitB psh77f) (mkCallB psh77f rs77f m77f 2 F77f) (mkCallB psh77u rs77u m77u 2 F77u)), (78, orC (fitB psh78f) (mkCallB psh78f rs78f m78f 2 F78f) (mkCallB psh78u rs78u m78u 2 F78u)), (79, mkCallB psh79u rs79u m79u 2 F79u)] [] Tryd.f61 psh61f rs61f 2
theorem call61f {F61u : (psh61u.den) → Option (rs61u).den} {F77f : (psh77f.den) → Option (rs77f).den} {F77u : (psh77u.den) → Option (rs77u).den} {F78f : (psh78f.den) → Option (rs78f).den} {F78u : (psh78u.den) → Option (rs78u).den} {F79u : (psh79u.den) → Option (rs79u).den} (h61u : CallOK Tryd.prog 61 (mkCallB psh61u rs61u m61u 2 F61u)) (h77f : CallOK Tryd.prog 77 (mkCallB psh77f rs77f m77f 2 F77f)) (h77u : CallOK Tryd.prog 77 (mkCallB psh77u rs77u m77u 2 F77u)) (h78f : CallOK Tryd.prog 78 (mkCallB psh78f rs78f m78f 2 F78f)) (h78u : CallOK Tryd.prog 78 (mkCallB psh78u rs78u m78u 2 F78u)) (h79u : CallOK Tryd.prog 79 (mkCallB psh79u rs79u m79u 2 F79u)) : CallOK Tryd.prog 61 (mkCallB psh61f rs61f m61f 2 (F61f F61u F77f F77u F78f F78u F79u)) :=
  runFnB_ok mixed tabOK (Δ := [(61, mkCallB psh61u rs61u m61u 2 F61u), (77, orC (fitB psh77f) (mkCallB psh77f rs77f m77f 2 F77f) (mkCallB psh77u rs77u m77u 2 F77u)), (78, orC (fitB psh78f) (mkCallB psh78f rs78f m78f 2 F78f) (mkCallB psh78u rs78u m78u 2 F78u)), (79, mkCallB psh79u rs79u m79u 2 F79u)]) ⟨.inl h61u, .inl (orC_ok h77f h77u), .inl (orC_ok h78f h78u), .inl h79u, trivial⟩ ⟨Tryd.func61, rfl, by kernel_rfl, by kernel_rfl, by kernel_rfl, by kernel_rfl, by kernel_rfl, by kernel_rfl, by kernel_rfl, by kernel_rfl, by kernel_rfl⟩ rfl (loopsAt_zip (Λ := []) (cs := []) (by kernel_rfl) (by kernel_rfl) (by kernel_rfl) trivial)
/-! 62 (*strings.Builder).String -/
abbrev psh62u : Shape := ⟨[(0, .pt 0 0)], [.box 119 [.pt 0 0, .rf 1], .row (.int .u8) 5]⟩
abbrev m62u : List Nat := []
abbrev rs62u : Shape := ⟨[(0, .pt 0 0), (1, .d false .str)], [.box 119 [.pt 0 0, .d false (.sl (.int .u8))]]⟩
noncomputable def F62u : (psh62u.den) → Option (rs62u).den := runFnB tb [] [] Tryd.f62 psh62u rs62u 1
theorem call62u : CallOK Tryd.prog 62 (mkCallB psh62u rs62u m62u 1 (F62u)) :=
  runFnB_ok mixed tabOK (Δ := []) trivial ⟨Tryd.func62, rfl, by kernel_rfl, by kernel_rfl, by kernel_rfl, by kernel_rfl, by kernel_rfl, by kernel_rfl, by kernel_rfl, by kernel_rfl, by kernel_rfl⟩ rfl (loopsAt_zip (Λ := []) (cs := []) (by kernel_rfl) (by kernel_rfl) (by kernel_rfl) trivial)
/-! 36 (*bowline/sorting.Treap).Shape -/
abbrev psh36t : Shape := ⟨[(0, .pt 0 0)], [.box 108 [.d false tR, .d false tI, .mp 1], .map tI false tI]⟩
abbrev m36t : List Nat := [0]
abbrev rs36t : Shape := ⟨[(0, .pt 0 0), (1, .d false .str)], [.box 108 [.d false tR, .d false tI, .mp 1], .map tI false tI]⟩
noncomputable def F36t (F60t : (psh60t.den) → Option (rs60t).den) (F61f : (psh61f.den) → Option (rs61f).den) (F62u : (psh62u.den) → Option (rs62u).den) : (psh36t.den) → Option (rs36t).den := runFnB tb [(60, mkCallB psh60t rs60t m60t 1 F60t), (61, mkCallB psh61f rs61f m61f 2 F61f), (62, mkCallB psh62u rs62u m62u 1 F62u)] [] Tryd.f36 psh36t rs36t 1
theorem call36t {F60t : (psh60t.den) → Option (rs60t).den} {F61f : (psh61f.den) → Option (rs61f).den} {F62u : (psh62u.den) → Option (rs62u).den} (h60t : CallOK Tryd.prog 60 (mkCallB psh60t rs60t m60t 1 F60t)) (h61f : CallOK Tryd.prog 61 (mkCallB psh61f rs61f m61f 2 F61f)) (h62u : CallOK Tryd.prog 62 (mkCallB psh62u rs62u m62u 1 F62u)) : CallOK Tryd.prog 36 (mkCallB psh36t rs36t m36t 1 (F36t F60t F61f F62u)) :=
  runFnB_ok mixed tabOK (Δ := [(60, mkCallB psh60t rs60t m60t 1 F60t), (61, mkCallB psh61f rs61f m61f 2 F61f), (62, mkCallB psh62u rs62u m62u 1 F62u)]) ⟨.inl h60t, .inl h61f, .inl h62u, trivial⟩ ⟨Tryd.func36, rfl, by kernel_rfl, by kernel_rfl, by kernel_rfl, by kernel_rfl, by kernel_rfl, by kernel_rfl, by kernel_rfl, by kernel_rfl, by kernel_rfl⟩ rfl (loopsAt_zip (Λ := []) (cs := []) (by kernel_rfl) (by kernel_rfl) (by kernel_rfl) trivial)
/-! 48 bowline/sorting.first -/
abbrev ps48 : List SV := [.d false (.sl tI)]
abbrev rs48 : Shape := ⟨[(0, .d false tI)], []⟩
abbrev sh48_2 : Shape := ⟨[(5, .d false (.sl tI)), (6, .d false tI), (7, .d false tI)], []⟩
abbrev w48_2 : List Way := [(none, ⟨[(2, .d false tI)], []⟩), (some 0, ⟨[], []⟩)]
noncomputable def S48_2 : sh48_2.den → Option (sh48_2.den ⊕ denX w48_2) := stepFn tb [] [] (upTo 15) Tryd.f48 2 sh48_2 w48_2
noncomputable def F48 (g48_2 : sh48_2.den → Option (denX w48_2)) : (SV.denL ps48) → Option (rs48).den := runFn tb [] [(2, lp sh48_2 w48_2 g48_2)] Tryd.f48 ps48 rs48
theorem call48 {g48_2 : sh48_2.den → Option (denX w48_2)} (hg48_2 : Lim (S48_2) g48_2) : CallOK Tryd.prog 48 (mkCall ps48 rs48 (F48 g48_2)) :=
  runFn_ok mixed tabOK (Δ := []) trivial ⟨Tryd.func48, rfl, by kernel_rfl, by kernel_rfl, by kernel_rfl, by kernel_rfl⟩ rfl (loopsAt_zip (cs := [.loop (loopOf Tryd.f48 2)]) (by kernel_rfl) (by kernel_rfl) (by kernel_rfl) ⟨stepLim_ok mixed tabOK (Δ := []) trivial hg48_2 (loopsAt_zip (Λ := []) (cs := []) (by kernel_rfl) (by kernel_rfl) (by kernel_rfl) trivial), trivial⟩)
/-! 49 bowline/sorting.when -/
abbrev ps49 : List SV := [.d false .bool, .d false tI]
abbrev rs49 : Shape := ⟨[(0, .d false tI)], []⟩
noncomputable def F49 : (SV.denL ps49) → Option (rs49).den := runFn tb [] [] Tryd.f49 ps49 rs49
theorem call49 : CallOK Tryd.prog 49 (mkCall ps49 rs49 (F49)) :=
  runFn_ok mixed tabOK (Δ := []) trivial ⟨Tryd.func49, rfl, by kernel_rfl, by kernel_rfl, by kernel_rfl, by kernel_rfl⟩ rfl (loopsAt_zip (Λ := []) (cs := []) (by kernel_rfl) (by kernel_rfl) (by kernel_rfl) trivial)
/-! 13 (*bowline/sorting.Queue).Push -/
abbrev psh13q : Shape := ⟨[(0, .pt 0 0), (1, .d true tIt)], [.box 90 [.rf 1, .d false tI], .row tEn 96]⟩
abbrev m13q : List Nat := [0]
abbrev rs13q : Shape := ⟨[(0, .pt 0 0), (1, .d true tIt), (2, .d false tI)], [.box 90 [.rf 1, .d false tI], .row tEn 96]⟩
abbrev sh13q_7 : Shape := ⟨[(0, .pt 0 0), (1, .d true tIt), (6, .d false tI)], [.box 90 [.rf 1, .d false tI], .row tEn 96]⟩
abbrev w13q_7 : List Way := [(some 0, ⟨[(0, .pt 0 0), (1, .d true tIt)], [.box 90 [.rf 1, .d false tI], .row tEn 96]⟩)]
noncomputable def S13q_7 (F50 : (SV.denL ps50) → Option (rs50).den) : sh13q_7.den → Option (sh13q_7.den ⊕ denX w13q_7) := stepFn tb [(50, mkCall ps50 rs50 F50)] [] (roundOk (upTo 99) (rangeN 0 2)) Tryd.f13 7 sh13q_7 w13q_7
noncomputable def F13q (F19q : (psh19q.den) → Option (rs19q).den) (F48 : (SV.denL ps48) → Option (rs48).den) (F49 : (SV.denL ps49) → Option (rs49).den) (g13q_7 : sh13q_7.den → Option (denX w13q_7)) : (psh13q.den) → Option (rs13q).den := runFnB tb [(19, mkCallB psh19q rs19q m19q 1 F19q), (48, mkCall ps48 rs48 F48), (49, mkCall ps49 rs49 F49)] [(7, lp sh13q_7 w13q_7 g13q_7)] Tryd.f13 psh13q rs13q 2
theorem call13q {F19q : (psh19q.den) → Option (rs19q).den} {F48 : (SV.denL ps48) → Option (rs48).den} {F49 : (SV.denL ps49) → Option (rs49).den} {F50 : (SV.denL ps50) → Option (rs50).den} {g13q_7 : sh13q_7.den → Option (denX w13q_7)} (h19q : CallOK Tryd.prog 19 (mkCallB psh19q rs19q m19q 1 F19q)) (h48 : CallOK Tryd.prog 48 (mkCall ps48 rs48 F48)) (h49 : CallOK Tryd.prog 49 (mkCall ps49 rs49 F49)) (h50 : CallOK Tryd.prog 50 (mkCall ps50 rs50 F50)) (hg13q_7 : Lim (S13q_7 F50) g13q_7) : CallOK Tryd.prog 13 (mkCallB psh13q rs13q m13q 2 (F13q F19q F48 F49 g13q_7)) :=
  runFnB_ok mixed tabOK (Δ := [(19, mkCallB psh19q rs19q m19q 1 F19q), (48, mkCall ps48 rs48 F48), (49, mkCall ps49 rs49 F49)]) ⟨.inl h19q, .inl h48, .inl h49, trivial⟩ ⟨Tryd.func13, rfl, by kernel_rfl, by kernel_rfl, by kernel_rfl, by kernel_rfl, by kernel_rfl, by kernel_rfl, by kernel_rfl, by kernel_rfl, by kernel_rfl⟩ rfl (loopsAt_zip (cs := [.loop (loopOf Tryd.f13 7)]) (by kernel_rfl) (by kernel_rfl) (by kernel_rfl) ⟨stepLim_ok mixed tabOK (Δ := [(50, mkCall ps50 rs50 F50)]) ⟨.inl h50, trivial⟩ hg13q_7 (loopsAt_zip (Λ := []) (cs := []) (by kernel_rfl) (by kernel_rfl) (by kernel_rfl) trivial), trivial⟩)
/-! 10 bowline/bowlinelaw36.awake -/
abbrev ps10 : List SV := []
abbrev rs10 : Shape := ⟨[(0, .d false .bool)], []⟩
abbrev sh10_6 : Shape := ⟨[(2, .pt 0 0), (36, .d false (.sl tIt)), (37, .d false tI), (38, .d false tI)], [.box 90 [.rf 1, .d false tI], .row tEn 96]⟩
abbrev w10_6 : List Way := [(none, ⟨[(0, .d false .bool)], []⟩), (some 0, ⟨[(2, .pt 0 0)], [.box 90 [.rf 1, .d false tI], .row tEn 96]⟩)]
noncomputable def S10_6 (F13q : (psh13q.den) → Option (rs13q).den) : sh10_6.den → Option (sh10_6.den ⊕ denX w10_6) := stepFn tb [(13, mkCallB psh13q rs13q m13q 2 F13q)] [] (upTo 97) Tryd.f10 6 sh10_6 w10_6
noncomputable def F10 (F11 : (SV.denL ps11) → Option (rs11).den) (F15q : (psh15q.den) → Option (rs15q).den) (F22 : (SV.denL ps22) → Option (rs22).den) (F25 : (SV.denL ps25) → Option (rs25).den) (F28 : (SV.denL ps28) → Option (rs28).den) (F30 : (SV.denL ps30) → Option (rs30).den) (F34 : (SV.denL ps34) → Option (rs34).den) (F35t : (psh35t.den) → Option (rs35t).den) (F36t : (psh36t.den) → Option (rs36t).den) (g10_6 : sh10_6.den → Option (denX w10_6)) : (SV.denL ps10) → Option (rs10).den := runFn tb [(11, mkCall ps11 rs11 F11), (15, mkCallB psh15q rs15q m15q 1 F15q), (22, mkCall ps22 rs22 F22), (25, mkCall ps25 rs25 F25), (28, mkCall ps28 rs28 F28), (30, mkCall ps30 rs30 F30), (34, mkCall ps34 rs34 F34), (35, mkCallB psh35t rs35t m35t 3 F35t), (36, mkCallB psh36t rs36t m36t 1 F36t)] [(6, lp sh10_6 w10_6 g10_6)] Tryd.f10 ps10 rs10
theorem call10 {F11 : (SV.denL ps11) → Option (rs11).den} {F13q : (psh13q.den) → Option (rs13q).den} {F15q : (psh15q.den) → Option (rs15q).den} {F22 : (SV.denL ps22) → Option (rs22).den} {F25 : (SV.denL ps25) → Option (rs25).den} {F28 : (SV.denL ps28) → Option (rs28).den} {F30 : (SV.denL ps30) → Option (rs30).den} {F34 : (SV.denL ps34) → Option (rs34).den} {F35t : (psh35t.den) → Option (rs35t).den} {F36t : (psh36t.den) → Option (rs36t).den} {g10_6 : sh10_6.den → Option (denX w10_6)} (h11 : CallOK Tryd.prog 11 (mkCall ps11 rs11 F11)) (h13q : CallOK Tryd.prog 13 (mkCallB psh13q rs13q m13q 2 F13q)) (h15q : CallOK Tryd.prog 15 (mkCallB psh15q rs15q m15q 1 F15q)) (h22 : CallOK Tryd.prog 22 (mkCall ps22 rs22 F22)) (h25 : CallOK Tryd.prog 25 (mkCall ps25 rs25 F25)) (h28 : CallOK Tryd.prog 28 (mkCall ps28 rs28 F28)) (h30 : CallOK Tryd.prog 30 (mkCall ps30 rs30 F30)) (h34 : CallOK Tryd.prog 34 (mkCall ps34 rs34 F34)) (h35t : CallOK Tryd.prog 35 (mkCallB psh35t rs35t m35t 3 F35t)) (h36t : CallOK Tryd.prog 36 (mkCallB psh36t rs36t m36t 1 F36t)) (hg10_6 : Lim (S10_6 F13q) g10_6) : CallOK Tryd.prog 10 (mkCall ps10 rs10 (F10 F11 F15q F22 F25 F28 F30 F34 F35t F36t g10_6)) :=
  runFn_ok mixed tabOK (Δ := [(11, mkCall ps11 rs11 F11), (15, mkCallB psh15q rs15q m15q 1 F15q), (22, mkCall ps22 rs22 F22), (25, mkCall ps25 rs25 F25), (28, mkCall ps28 rs28 F28), (30, mkCall ps30 rs30 F30), (34, mkCall ps34 rs34 F34), (35, mkCallB psh35t rs35t m35t 3 F35t), (36, mkCallB psh36t rs36t m36t 1 F36t)]) ⟨.inl h11, .inl h15q, .inl h22, .inl h25, .inl h28, .inl h30, .inl h34, .inl h35t, .inl h36t, trivial⟩ ⟨Tryd.func10, rfl, by kernel_rfl, by kernel_rfl, by kernel_rfl, by kernel_rfl⟩ rfl (loopsAt_zip (cs := [.loop (loopOf Tryd.f10 6)]) (by kernel_rfl) (by kernel_rfl) (by kernel_rfl) ⟨stepLim_ok mixed tabOK (Δ := [(13, mkCallB psh13q rs13q m13q 2 F13q)]) ⟨.inl h13q, trivial⟩ hg10_6 (loopsAt_zip (Λ := []) (cs := []) (by kernel_rfl) (by kernel_rfl) (by kernel_rfl) trivial), trivial⟩)
/-! 12 bowline/bowlineref36.NewQueue -/
abbrev ps12 : List SV := []
abbrev rs12 : Shape := ⟨[(0, .pt 0 0)], [.box 92 [.d false (.sl tIt)]]⟩
noncomputable def F12 : (SV.denL ps12) → Option (rs12).den := runFn tb [] [] Tryd.f12 ps12 rs12
/-! 24 bowline/bowlineref36.Stable -/
abbrev ps24 : List SV := [.d false (.sl tIt)]
abbrev rs24 : Shape := ⟨[(0, .d false (.sl tIt))], []⟩
abbrev sh24_6 : Shape := ⟨[(0, .d false (.sl tIt)), (3, .rf 0), (4, .d false tI), (5, .d false tI)], [.row tIt 35]⟩
abbrev w24_6 : List Way := [(some 2, sh24_6)]
abbrev sh24_3 : Shape := ⟨[(0, .d false (.sl tIt)), (3, .rf 0), (4, .d false tI)], [.row tIt 35]⟩
abbrev w24_3 : List Way := [(some 0, ⟨[(3, .rf 0)], [.row tIt 35]⟩)]
noncomputable def S24_6 : sh24_6.den → Option (sh24_6.den ⊕ denX w24_6) := stepFn tb [] [] (upTo 52) Tryd.f24 6 sh24_6 w24_6
noncomputable def S24_3 (g24_6 : sh24_6.den → Option (denX w24_6)) : sh24_3.den → Option (sh24_3.den ⊕ denX w24_3) := stepFn tb [] [(6, lp sh24_6 w24_6 g24_6)] (upTo 52) Tryd.f24 3 sh24_3 w24_3
noncomputable def F24 (g24_3 : sh24_3.den → Option (denX w24_3)) : (SV.denL ps24) → Option (rs24).den := runFn tb [] [(3, lp sh24_3 w24_3 g24_3)] Tryd.f24 ps24 rs24
theorem call24 {g24_6 : sh24_6.den → Option (denX w24_6)} {g24_3 : sh24_3.den → Option (denX w24_3)} (hg24_6 : Lim (S24_6) g24_6) (hg24_3 : Lim (S24_3 g24_6) g24_3) : CallOK Tryd.prog 24 (mkCall ps24 rs24 (F24 g24_3)) :=
  runFn_ok mixed tabOK (Δ := []) trivial ⟨Tryd.func24, rfl, by kernel_rfl, by kernel_rfl, by kernel_rfl, by kernel_rfl⟩ rfl (loopsAt_zip (cs := [.loop (loopOf Tryd.f24 3)]) (by kernel_rfl) (by kernel_rfl) (by kernel_rfl) ⟨stepLim_ok mixed tabOK (Δ := []) trivial hg24_3 (loopsAt_zip (cs := [.loop (loopOf Tryd.f24 6)]) (by kernel_rfl) (by kernel_rfl) (by kernel_rfl) ⟨stepLim_ok mixed tabOK (Δ := []) trivial hg24_6 (loopsAt_zip (Λ := []) (cs := []) (by kernel_rfl) (by kernel_rfl) (by kernel_rfl) trivial), trivial⟩), trivial⟩)
/-! 3 bowline/bowlinelaw36.SortingQueues -/
abbrev ps3 : List SV := [.d false (.sl (.pr tI tIt)), .d false .bool]
abbrev rs3 : Shape := ⟨[(0, .d false .bool)], []⟩
abbrev sh3_7 : Shape := ⟨[(5, .np), (6, .np), (24, .d false (.sl (.pr tI tIt))), (25, .d false tI), (26, .d false tI)], []⟩
abbrev w3_7 : List Way := [(none, ⟨[(4, .d false .bool)], []⟩), (some 0, ⟨[], []⟩)]
abbrev sh3_7v1 : Shape := ⟨[(5, .pt 0 0), (6, .pt 1 0), (24, .d false (.sl (.pr tI tIt))), (25, .d false tI), (26, .d false tI)], [.box 90 [.rf 2, .d false tI], .box 92 [.d false (.sl tIt)], .row tEn 96]⟩
abbrev w3_7v1 : List Way := [(none, ⟨[(4, .d false .bool)], []⟩), (some 0, ⟨[], []⟩)]
noncomputable def F3 (F10 : (SV.denL ps10) → Option (rs10).den) (F11 : (SV.denL ps11) → Option (rs11).den) (F12 : (SV.denL ps12) → Option (rs12).den) (g3_7 : sh3_7.den → Option (denX w3_7)) (g3_7v1 : sh3_7v1.den → Option (denX w3_7v1)) : (SV.denL ps3) → Option (rs3).den := runFn tb [(10, mkCall ps10 rs10 F10), (11, mkCall ps11 rs11 F11), (12, mkCall ps12 rs12 F12)] [(7, orL (fitL sh3_7) (lp sh3_7 w3_7 g3_7) (lp sh3_7v1 w3_7v1 g3_7v1))] Tryd.f3 ps3 rs3
/-! 51 bowline/sorting.sorted -/
abbrev ps51 : List SV := [.d false (.sl tIt)]
abbrev rs51 : Shape := ⟨[(0, .d false tI)], []⟩
abbrev sh51_2 : Shape := ⟨[(0, .d false (.sl tIt)), (5, .d false tI), (6, .d false tI)], []⟩
abbrev w51_2 : List Way := [(none, ⟨[(2, .d false tI)], []⟩), (some 0, ⟨[], []⟩)]
noncomputable def S51_2 (F53 : (SV.denL ps53) → Option (rs53).den) : sh51_2.den → Option (sh51_2.den ⊕ denX w51_2) := stepFn tb [(53, mkCall ps53 rs53 F53)] [] (upTo 24) Tryd.f51 2 sh51_2 w51_2
noncomputable def F51 (g51_2 : sh51_2.den → Option (denX w51_2)) : (SV.denL ps51) → Option (rs51).den := runFn tb [] [(2, lp sh51_2 w51_2 g51_2)] Tryd.f51 ps51 rs51
theorem call51 {F53 : (SV.denL ps53) → Option (rs53).den} {g51_2 : sh51_2.den → Option (denX w51_2)} (h53 : CallOK Tryd.prog 53 (mkCall ps53 rs53 F53)) (hg51_2 : Lim (S51_2 F53) g51_2) : CallOK Tryd.prog 51 (mkCall ps51 rs51 (F51 g51_2)) :=
  runFn_ok mixed tabOK (Δ := []) trivial ⟨Tryd.func51, rfl, by kernel_rfl, by kernel_rfl, by kernel_rfl, by kernel_rfl⟩ rfl (loopsAt_zip (cs := [.loop (loopOf Tryd.f51 2)]) (by kernel_rfl) (by kernel_rfl) (by kernel_rfl) ⟨stepLim_ok mixed tabOK (Δ := [(53, mkCall ps53 rs53 F53)]) ⟨.inl h53, trivial⟩ hg51_2 (loopsAt_zip (Λ := []) (cs := []) (by kernel_rfl) (by kernel_rfl) (by kernel_rfl) trivial), trivial⟩)
/-! 54 bowline/bowlineref36.IsSorted -/
abbrev ps54 : List SV := [.d false (.sl tIt)]
abbrev rs54 : Shape := ⟨[(0, .d false .bool)], []⟩
abbrev sh54_2 : Shape := ⟨[(0, .d false (.sl tIt)), (3, .d false tI)], []⟩
abbrev w54_2 : List Way := [(none, ⟨[(2, .d false .bool)], []⟩), (some 0, ⟨[], []⟩)]
noncomputable def S54_2 : sh54_2.den → Option (sh54_2.den ⊕ denX w54_2) := stepFn tb [] [] (upTo 22) Tryd.f54 2 sh54_2 w54_2
noncomputable def F54 (g54_2 : sh54_2.den → Option (denX w54_2)) : (SV.denL ps54) → Option (rs54).den := runFn tb [] [(2, lp sh54_2 w54_2 g54_2)] Tryd.f54 ps54 rs54
theorem call54 {g54_2 : sh54_2.den → Option (denX w54_2)} (hg54_2 : Lim (S54_2) g54_2) : CallOK Tryd.prog 54 (mkCall ps54 rs54 (F54 g54_2)) :=
  runFn_ok mixed tabOK (Δ := []) trivial ⟨Tryd.func54, rfl, by kernel_rfl, by kernel_rfl, by kernel_rfl, by kernel_rfl⟩ rfl (loopsAt_zip (cs := [.loop (loopOf Tryd.f54 2)]) (by kernel_rfl) (by kernel_rfl) (by kernel_rfl) ⟨stepLim_ok mixed tabOK (Δ := []) trivial hg54_2 (loopsAt_zip (Λ := []) (cs := []) (by kernel_rfl) (by kernel_rfl) (by kernel_rfl) trivial), trivial⟩)
/-! 23 bowline/bowlineref36.Merge -/
abbrev ps23 : List SV := [.d false (.sl tIt), .d false (.sl tIt)]
abbrev rs23 : Shape := ⟨[(0, .d false (.sl tIt)), (1, .d false tI)], []⟩
noncomputable def F23 (F24 : (SV.denL ps24) → Option (rs24).den) (F54 : (SV.denL ps54) → Option (rs54).den) : (SV.denL ps23) → Option (rs23).den := runFn tb [(24, mkCall ps24 rs24 F24), (54, mkCall ps54 rs54 F54)] [] Tryd.f23 ps23 rs23
/-! 55 bowline/sorting.sink -/
abbrev psh55r : Shape := ⟨[(0, .rf 0), (1, .d false tI)], [.row tIt 33]⟩
abbrev m55r : List Nat := [0]
abbrev rs55r : Shape := ⟨[(0, .rf 0)], [.row tIt 33]⟩
abbrev sh55r_2 : Shape := ⟨[(0, .rf 0), (1, .d false tI), (4, .d false tI), (8, .d false tI)], [.row tIt 33]⟩
abbrev w55r_2 : List Way := [(some 2, ⟨[(0, .rf 0), (1, .d false tI), (4, .d false tI)], [.row tIt 33]⟩)]
abbrev sh55r_0 : Shape := ⟨[(0, .rf 0), (1, .d false tI)], [.row tIt 33]⟩
abbrev w55r_0 : List Way := [(some 0, ⟨[(0, .rf 0)], [.row tIt 33]⟩)]
noncomputable def S55r_2 (F53 : (SV.denL ps53) → Option (rs53).den) : sh55r_2.den → Option (sh55r_2.den ⊕ denX w55r_2) := stepFn tb [(53, mkCall ps53 rs53 F53)] [] (roundOk (upTo 51) (rangeN 0 1)) Tryd.f55 2 sh55r_2 w55r_2
noncomputable def S55r_0 (g55r_2 : sh55r_2.den → Option (denX w55r_2)) : sh55r_0.den → Option (sh55r_0.den ⊕ denX w55r_0) := stepFn tb [] [(2, lp sh55r_2 w55r_2 g55r_2)] (roundOk (upTo 51) (rangeN 0 1)) Tryd.f55 0 sh55r_0 w55r_0
noncomputable def F55r (g55r_0 : sh55r_0.den → Option (denX w55r_0)) : (psh55r.den) → Option (rs55r).den := runFnB tb [] [(0, lp sh55r_0 w55r_0 g55r_0)] Tryd.f55 psh55r rs55r 1
theorem call55r {F53 : (SV.denL ps53) → Option (rs53).den} {g55r_2 : sh55r_2.den → Option (denX w55r_2)} {g55r_0 : sh55r_0.den → Option (denX w55r_0)} (h53 : CallOK Tryd.prog 53 (mkCall ps53 rs53 F53)) (hg55r_2 : Lim (S55r_2 F53) g55r_2) (hg55r_0 : Lim (S55r_0 g55r_2) g55r_0) : CallOK Tryd.prog 55 (mkCallB psh55r rs55r m55r 1 (F55r g55r_0)) :=
  runFnB_ok mixed tabOK (Δ := []) trivial ⟨Tryd.func55, rfl, by kernel_rfl, by kernel_rfl, by kernel_rfl, by kernel_rfl, by kernel_rfl, by kernel_rfl, by kernel_rfl, by kernel_rfl, by kernel_rfl⟩ rfl (loopsAt_zip (cs := [.loop (loopOf Tryd.f55 0)]) (by kernel_rfl) (by kernel_rfl) (by kernel_rfl) ⟨stepLim_ok mixed tabOK (Δ := []) trivial hg55r_0 (loopsAt_zip (cs := [.loop (loopOf Tryd.f55 2)]) (by kernel_rfl) (by kernel_rfl) (by kernel_rfl) ⟨stepLim_ok mixed tabOK (Δ := [(53, mkCall ps53 rs53 F53)]) ⟨.inl h53, trivial⟩ hg55r_2 (loopsAt_zip (Λ := []) (cs := []) (by kernel_rfl) (by kernel_rfl) (by kernel_rfl) trivial), trivial⟩), trivial⟩)
/-! 55 bowline/sorting.sink -/
abbrev psh55s : Shape := ⟨[(0, .rz 0 2), (1, .d false tI)], [.row tIt 33]⟩
abbrev m55s : List Nat := [0]
abbrev rs55s : Shape := ⟨[(0, .rz 0 2)], [.row tIt 33]⟩
abbrev sh55s_2 : Shape := ⟨[(0, .rz 0 2), (1, .d false tI), (4, .d false tI), (8, .d false tI)], [.row tIt 33]⟩
abbrev w55s_2 : List Way := [(some 2, ⟨[(0, .rz 0 2), (1, .d false tI), (4, .d false tI)], [.row tIt 33]⟩)]
abbrev sh55s_0 : Shape := ⟨[(0, .rz 0 2), (1, .d false tI)], [.row tIt 33]⟩
abbrev w55s_0 : List Way := [(some 0, ⟨[(0, .rz 0 2)], [.row tIt 33]⟩)]
noncomputable def S55s_2 (F53 : (SV.denL ps53) → Option (rs53).den) : sh55s_2.den → Option (sh55s_2.den ⊕ denX w55s_2) := stepFn tb [(53, mkCall ps53 rs53 F53)] [] (roundOk (upTo 51) (rangeN 0 1)) Tryd.f55 2 sh55s_2 w55s_2
noncomputable def S55s_0 (g55s_2 : sh55s_2.den → Option (denX w55s_2)) : sh55s_0.den → Option (sh55s_0.den ⊕ denX w55s_0) := stepFn tb [] [(2, lp sh55s_2 w55s_2 g55s_2)] (roundOk (upTo 51) (rangeN 0 1)) Tryd.f55 0 sh55s_0 w55s_0
noncomputable def F55s (g55s_0 : sh55s_0.den → Option (denX w55s_0)) : (psh55s.den) → Option (rs55s).den := runFnB tb [] [(0, lp sh55s_0 w55s_0 g55s_0)] Tryd.f55 psh55s rs55s 1
theorem call55s {F53 : (SV.denL ps53) → Option (rs53).den} {g55s_2 : sh55s_2.den → Option (denX w55s_2)} {g55s_0 : sh55s_0.den → Option (denX w55s_0)} (h53 : CallOK Tryd.prog 53 (mkCall ps53 rs53 F53)) (hg55s_2 : Lim (S55s_2 F53) g55s_2) (hg55s_0 : Lim (S55s_0 g55s_2) g55s_0) : CallOK Tryd.prog 55 (mkCallB psh55s rs55s m55s 1 (F55s g55s_0)) :=
  runFnB_ok mixed tabOK (Δ := []) trivial ⟨Tryd.func55, rfl, by kernel_rfl, by kernel_rfl, by kernel_rfl, by kernel_rfl, by kernel_rfl, by kernel_rfl, by kernel_rfl, by kernel_rfl, by kernel_rfl⟩ rfl (loopsAt_zip (cs := [.loop (loopOf Tryd.f55 0)]) (by kernel_rfl) (by kernel_rfl) (by kernel_rfl) ⟨stepLim_ok mixed tabOK (Δ := []) trivial hg55s_0 (loopsAt_zip (cs := [.loop (loopOf Tryd.f55 2)]) (by kernel_rfl) (by kernel_rfl) (by kernel_rfl) ⟨stepLim_ok mixed tabOK (Δ := [(53, mkCall ps53 rs53 F53)]) ⟨.inl h53, trivial⟩ hg55s_2 (loopsAt_zip (Λ := []) (cs := []) (by kernel_rfl) (by kernel_rfl) (by kernel_rfl) trivial), trivial⟩), trivial⟩)
/-! 26 bowline/sorting.InPlace -/
abbrev ps26 : List SV := [.d false (.sl tIt)]
abbrev rs26 : Shape := ⟨[(0, .d false (.sl tIt))], []⟩
abbrev sh26_4 : Shape := ⟨[(3, .rf 0), (14, .d false tI), (15, .d false tI)], [.row tIt 33]⟩
abbrev w26_4 : List Way := [(some 0, ⟨[(3, .rf 0)], [.row tIt 33]⟩)]
abbrev sh26_9 : Shape := ⟨[(3, .rf 0), (5, .d false tI)], [.row tIt 33]⟩
abbrev w26_9 : List Way := [(some 2, ⟨[(3, .rf 0)], [.row tIt 33]⟩)]
noncomputable def S26_4 (F55r : (psh55r.den) → Option (rs55r).den) (F55s : (psh55s.den) → Option (rs55s).den) : sh26_4.den → Option (sh26_4.den ⊕ denX w26_4) := stepFn tb [(55, orC (fitB psh55r) (mkCallB psh55r rs55r m55r 1 F55r) (mkCallB psh55s rs55s m55s 1 F55s))] [] (upTo 51) Tryd.f26 4 sh26_4 w26_4
noncomputable def S26_9 (F55r : (psh55r.den) → Option (rs55r).den) (F55s : (psh55s.den) → Option (rs55s).den) : sh26_9.den → Option (sh26_9.den ⊕ denX w26_9) := stepFn tb [(55, orC (fitB psh55r) (mkCallB psh55r rs55r m55r 1 F55r) (mkCallB psh55s rs55s m55s 1 F55s))] [] (upTo 51) Tryd.f26 9 sh26_9 w26_9
noncomputable def F26 (g26_4 : sh26_4.den → Option (denX w26_4)) (g26_9 : sh26_9.den → Option (denX w26_9)) : (SV.denL ps26) → Option (rs26).den := runFn tb [] [(4, lp sh26_4 w26_4 g26_4), (9, lp sh26_9 w26_9 g26_9)] Tryd.f26 ps26 rs26
theorem call26 {F55r : (psh55r.den) → Option (rs55r).den} {F55s : (psh55s.den) → Option (rs55s).den} {g26_4 : sh26_4.den → Option (denX w26_4)} {g26_9 : sh26_9.den → Option (denX w26_9)} (h55r : CallOK Tryd.prog 55 (mkCallB psh55r rs55r m55r 1 F55r)) (h55s : CallOK Tryd.prog 55 (mkCallB psh55s rs55s m55s 1 F55s)) (hg26_4 : Lim (S26_4 F55r F55s) g26_4) (hg26_9 : Lim (S26_9 F55r F55s) g26_9) : CallOK Tryd.prog 26 (mkCall ps26 rs26 (F26 g26_4 g26_9)) :=
  runFn_ok mixed tabOK (Δ := []) trivial ⟨Tryd.func26, rfl, by kernel_rfl, by kernel_rfl, by kernel_rfl, by kernel_rfl⟩ rfl (loopsAt_zip (cs := [.loop (loopOf Tryd.f26 4), .loop (loopOf Tryd.f26 9)]) (by kernel_rfl) (by kernel_rfl) (by kernel_rfl) ⟨stepLim_ok mixed tabOK (Δ := [(55, orC (fitB psh55r) (mkCallB psh55r rs55r m55r 1 F55r) (mkCallB psh55s rs55s m55s 1 F55s))]) ⟨.inl (orC_ok h55r h55s), trivial⟩ hg26_4 (loopsAt_zip (Λ := []) (cs := []) (by kernel_rfl) (by kernel_rfl) (by kernel_rfl) trivial), stepLim_ok mixed tabOK (Δ := [(55, orC (fitB psh55r) (mkCallB psh55r rs55r m55r 1 F55r) (mkCallB psh55s rs55s m55s 1 F55s))]) ⟨.inl (orC_ok h55r h55s), trivial⟩ hg26_9 (loopsAt_zip (Λ := []) (cs := []) (by kernel_rfl) (by kernel_rfl) (by kernel_rfl) trivial), trivial⟩)
/-! 27 bowline/sorting.Select -/
abbrev ps27 : List SV := [.d false (.sl tIt), .d false tI]
abbrev rs27 : Shape := ⟨[(0, .d false tI), (1, .d false tI)], []⟩
noncomputable def F27 (F26 : (SV.denL ps26) → Option (rs26).den) : (SV.denL ps27) → Option (rs27).den := runFn tb [(26, mkCall ps26 rs26 F26)] [] Tryd.f27 ps27 rs27
theorem call27 {F26 : (SV.denL ps26) → Option (rs26).den} (h26 : CallOK Tryd.prog 26 (mkCall ps26 rs26 F26)) : CallOK Tryd.prog 27 (mkCall ps27 rs27 (F27 F26)) :=
  runFn_ok mixed tabOK (Δ := [(26, mkCall ps26 rs26 F26)]) ⟨.inl h26, trivial⟩ ⟨Tryd.func27, rfl, by kernel_rfl, by kernel_rfl, by kernel_rfl, by kernel_rfl⟩ rfl (loopsAt_zip (Λ := []) (cs := []) (by kernel_rfl) (by kernel_rfl) (by kernel_rfl) trivial)
/-! 29 bowline/bowlineref36.Mix -/
abbrev ps29 : List SV := [.d false tI, .d false tI]
abbrev rs29 : Shape := ⟨[(0, .d false (.int .u64))], []⟩
noncomputable def F29 : (SV.denL ps29) → Option (rs29).den := runFn tb [] [] Tryd.f29 ps29 rs29
theorem call29 : CallOK Tryd.prog 29 (mkCall ps29 rs29 (F29)) :=
  runFn_ok mixed tabOK (Δ := []) trivial ⟨Tryd.func29, rfl, by kernel_rfl, by kernel_rfl, by kernel_rfl, by kernel_rfl⟩ rfl (loopsAt_zip (Λ := []) (cs := []) (by kernel_rfl) (by kernel_rfl) (by kernel_rfl) trivial)
/-! 31 bowline/sorting.Search -/
abbrev ps31 : List SV := [.d false (.sl tIt), .d false tI]
abbrev rs31 : Shape := ⟨[(0, .d false tI), (1, .d false tI)], []⟩
abbrev sh31_5 : Shape := ⟨[(0, .d false (.sl tIt)), (1, .d false tI), (7, .d false tI), (8, .d false tI)], []⟩
abbrev w31_5 : List Way := [(some 0, ⟨[(7, .d false tI)], []⟩)]
noncomputable def S31_5 : sh31_5.den → Option (sh31_5.den ⊕ denX w31_5) := stepFn tb [] [] (upTo 37) Tryd.f31 5 sh31_5 w31_5
noncomputable def F31 (F51 : (SV.denL ps51) → Option (rs51).den) (g31_5 : sh31_5.den → Option (denX w31_5)) : (SV.denL ps31) → Option (rs31).den := runFn tb [(51, mkCall ps51 rs51 F51)] [(5, lp sh31_5 w31_5 g31_5)] Tryd.f31 ps31 rs31
theorem call31 {F51 : (SV.denL ps51) → Option (rs51).den} {g31_5 : sh31_5.den → Option (denX w31_5)} (h51 : CallOK Tryd.prog 51 (mkCall ps51 rs51 F51)) (hg31_5 : Lim (S31_5) g31_5) : CallOK Tryd.prog 31 (mkCall ps31 rs31 (F31 F51 g31_5)) :=
  runFn_ok mixed tabOK (Δ := [(51, mkCall ps51 rs51 F51)]) ⟨.inl h51, trivial⟩ ⟨Tryd.func31, rfl, by kernel_rfl, by kernel_rfl, by kernel_rfl, by kernel_rfl⟩ rfl (loopsAt_zip (cs := [.loop (loopOf Tryd.f31 5)]) (by kernel_rfl) (by kernel_rfl) (by kernel_rfl) ⟨stepLim_ok mixed tabOK (Δ := []) trivial hg31_5 (loopsAt_zip (Λ := []) (cs := []) (by kernel_rfl) (by kernel_rfl) (by kernel_rfl) trivial), trivial⟩)
/-! 32 bowline/bowlineref36.Search -/
abbrev ps32 : List SV := [.d false (.sl tIt), .d false tI]
abbrev rs32 : Shape := ⟨[(0, .d false tI), (1, .d false tI)], []⟩
abbrev sh32_4 : Shape := ⟨[(0, .d false (.sl tIt)), (1, .d false tI), (6, .d false tI)], []⟩
abbrev w32_4 : List Way := [(some 0, ⟨[(6, .d false tI)], []⟩)]
noncomputable def S32_4 : sh32_4.den → Option (sh32_4.den ⊕ denX w32_4) := stepFn tb [] [] (upTo 26) Tryd.f32 4 sh32_4 w32_4
noncomputable def F32 (F54 : (SV.denL ps54) → Option (rs54).den) (g32_4 : sh32_4.den → Option (denX w32_4)) : (SV.denL ps32) → Option (rs32).den := runFn tb [(54, mkCall ps54 rs54 F54)] [(4, lp sh32_4 w32_4 g32_4)] Tryd.f32 ps32 rs32
theorem call32 {F54 : (SV.denL ps54) → Option (rs54).den} {g32_4 : sh32_4.den → Option (denX w32_4)} (h54 : CallOK Tryd.prog 54 (mkCall ps54 rs54 F54)) (hg32_4 : Lim (S32_4) g32_4) : CallOK Tryd.prog 32 (mkCall ps32 rs32 (F32 F54 g32_4)) :=
  runFn_ok mixed tabOK (Δ := [(54, mkCall ps54 rs54 F54)]) ⟨.inl h54, trivial⟩ ⟨Tryd.func32, rfl, by kernel_rfl, by kernel_rfl, by kernel_rfl, by kernel_rfl⟩ rfl (loopsAt_zip (cs := [.loop (loopOf Tryd.f32 4)]) (by kernel_rfl) (by kernel_rfl) (by kernel_rfl) ⟨stepLim_ok mixed tabOK (Δ := []) trivial hg32_4 (loopsAt_zip (Λ := []) (cs := []) (by kernel_rfl) (by kernel_rfl) (by kernel_rfl) trivial), trivial⟩)
/-! 33 bowline/bowlineref36.Select -/
abbrev ps33 : List SV := [.d false (.sl tIt), .d false tI]
abbrev rs33 : Shape := ⟨[(0, .d false tI), (1, .d false tI)], []⟩
noncomputable def F33 (F24 : (SV.denL ps24) → Option (rs24).den) : (SV.denL ps33) → Option (rs33).den := runFn tb [(24, mkCall ps24 rs24 F24)] [] Tryd.f33 ps33 rs33
theorem call33 {F24 : (SV.denL ps24) → Option (rs24).den} (h24 : CallOK Tryd.prog 24 (mkCall ps24 rs24 F24)) : CallOK Tryd.prog 33 (mkCall ps33 rs33 (F33 F24)) :=
  runFn_ok mixed tabOK (Δ := [(24, mkCall ps24 rs24 F24)]) ⟨.inl h24, trivial⟩ ⟨Tryd.func33, rfl, by kernel_rfl, by kernel_rfl, by kernel_rfl, by kernel_rfl⟩ rfl (loopsAt_zip (Λ := []) (cs := []) (by kernel_rfl) (by kernel_rfl) (by kernel_rfl) trivial)
/-! 7 bowline/bowlinelaw36.SortingStable -/
abbrev ps7 : List SV := [.d false (.sl tIt), .d false tI, .d false tI]
abbrev rs7 : Shape := ⟨[(0, .d false .bool)], []⟩
noncomputable def F7 (F10 : (SV.denL ps10) → Option (rs10).den) (F22 : (SV.denL ps22) → Option (rs22).den) (F24 : (SV.denL ps24) → Option (rs24).den) (F25 : (SV.denL ps25) → Option (rs25).den) (F27 : (SV.denL ps27) → Option (rs27).den) (F28 : (SV.denL ps28) → Option (rs28).den) (F29 : (SV.denL ps29) → Option (rs29).den) (F30 : (SV.denL ps30) → Option (rs30).den) (F31 : (SV.denL ps31) → Option (rs31).den) (F32 : (SV.denL ps32) → Option (rs32).den) (F33 : (SV.denL ps33) → Option (rs33).den) : (SV.denL ps7) → Option (rs7).den := runFn tb [(10, mkCall ps10 rs10 F10), (22, mkCall ps22 rs22 F22), (24, mkCall ps24 rs24 F24), (25, mkCall ps25 rs25 F25), (27, mkCall ps27 rs27 F27), (28, mkCall ps28 rs28 F28), (29, mkCall ps29 rs29 F29), (30, mkCall ps30 rs30 F30), (31, mkCall ps31 rs31 F31), (32, mkCall ps32 rs32 F32), (33, mkCall ps33 rs33 F33)] [] Tryd.f7 ps7 rs7
theorem call7 {F10 : (SV.denL ps10) → Option (rs10).den} {F22 : (SV.denL ps22) → Option (rs22).den} {F24 : (SV.denL ps24) → Option (rs24).den} {F25 : (SV.denL ps25) → Option (rs25).den} {F27 : (SV.denL ps27) → Option (rs27).den} {F28 : (SV.denL ps28) → Option (rs28).den} {F29 : (SV.denL ps29) → Option (rs29).den} {F30 : (SV.denL ps30) → Option (rs30).den} {F31 : (SV.denL ps31) → Option (rs31).den} {F32 : (SV.denL ps32) → Option (rs32).den} {F33 : (SV.denL ps33) → Option (rs33).den} (h10 : CallOK Tryd.prog 10 (mkCall ps10 rs10 F10)) (h22 : CallOK Tryd.prog 22 (mkCall ps22 rs22 F22)) (h24 : CallOK Tryd.prog 24 (mkCall ps24 rs24 F24)) (h25 : CallOK Tryd.prog 25 (mkCall ps25 rs25 F25)) (h27 : CallOK Tryd.prog 27 (mkCall ps27 rs27 F27)) (h28 : CallOK Tryd.prog 28 (mkCall ps28 rs28 F28)) (h29 : CallOK Tryd.prog 29 (mkCall ps29 rs29 F29)) (h30 : CallOK Tryd.prog 30 (mkCall ps30 rs30 F30)) (h31 : CallOK Tryd.prog 31 (mkCall ps31 rs31 F31)) (h32 : CallOK Tryd.prog 32 (mkCall ps32 rs32 F32)) (h33 : CallOK Tryd.prog 33 (mkCall ps33 rs33 F33)) : CallOK Tryd.prog 7 (mkCall ps7 rs7 (F7 F10 F22 F24 F25 F27 F28 F29 F30 F31 F32 F33)) :=
  runFn_ok mixed tabOK (Δ := [(10, mkCall ps10 rs10 F10), (22, mkCall ps22 rs22 F22), (24, mkCall ps24 rs24 F24), (25, mkCall ps25 rs25 F25), (27, mkCall ps27 rs27 F27), (28, mkCall ps28 rs28 F28), (29, mkCall ps29 rs29 F29), (30, mkCall ps30 rs30 F30), (31, mkCall ps31 rs31 F31), (32, mkCall ps32 rs32 F32), (33, mkCall ps33 rs33 F33)]) ⟨.inl h10, .inl h22, .inl h24, .inl h25, .inl h27, .inl h28, .inl h29, .inl h30, .inl h31, .inl h32, .inl h33, trivial⟩ ⟨Tryd.func7, rfl, by kernel_rfl, by kernel_rfl, by kernel_rfl, by kernel_rfl⟩ rfl (loopsAt_zip (Λ := []) (cs := []) (by kernel_rfl) (by kernel_rfl) (by kernel_rfl) trivial)
end Go.Proofs.Rf
/- The functions, evaluated. -/
set_option linter.unusedVariables false
namespace Go.Proofs.Rf
open Go Go.RowKit
theorem S22_3_eq (t6 : List (Int × Int)) (t7 : Int) (t8 : Int) (rw0 : List (Int × Int)) : S22_3 (((), t6, t7, t8, ()), (rw0, ())) = (
  if decide (t8 < t7) = true then
    if 0 ≤ t8 then
      if t8 < (↑t6.length : Int) then
        if rw0.length + [((t6.getD t8.toNat (0, 0)).1, (t6.getD t8.toNat (0, 0)).2)].length ≤ 4294967296 then
          some
            (Sum.inl
              (((), t6, t7, IntKind.i64.wrap (t8 + 1), ()),
                rw0 ++ [((t6.getD t8.toNat (0, 0)).1, (t6.getD t8.toNat (0, 0)).2)], ()))
        else none
      else none
    else none
  else some (Sum.inr (((), ()), rw0, ())) : Option (sh22_3.den ⊕ denX w22_3)) := by kernel_rfl
theorem F22_eq (g22_3 : sh22_3.den → Option (denX w22_3)) (l0 : List (Int × Int)) : F22 g22_3 (l0, ()) = (
  (g22_3 (((), l0, (↑l0.length : Int), 0, ()), [], ())).bind fun y => some ((y.2.1, ()), ()) : Option rs22.den) := by kernel_rfl
theorem S25_4_eq (b1 : List (Int × Int)) (t12 : List (Int × Int)) (t13 : Int) (t14 : Int) : S25_4 ((b1, t12, t13, t14, ()), ()) = (
  if decide (t14 < t13) = true then
    if 0 ≤ t14 then
      if t14 < (↑t12.length : Int) then
        if 0 ≤ t14 then
          if t14 < (↑b1.length : Int) then
            if
                (!((t12.getD t14.toNat (0, 0)).1 == (b1.getD t14.toNat (0, 0)).1 &&
                      ((t12.getD t14.toNat (0, 0)).2 == (b1.getD t14.toNat (0, 0)).2 && true))) =
                  true then
              some (Sum.inr (Sum.inl ((false, ()), ())))
            else some (Sum.inl ((b1, t12, t13, IntKind.i64.wrap (t14 + 1), ()), ()))
          else none
        else none
      else none
    else none
  else some (Sum.inr (Sum.inr ((), ()))) : Option (sh25_4.den ⊕ denX w25_4)) := by kernel_rfl
theorem F25_eq (g25_4 : sh25_4.den → Option (denX w25_4)) (a0 : List (Int × Int)) (b1 : List (Int × Int)) : F25 g25_4 (a0, b1, ()) = (
  if (!(↑a0.length : Int) == (↑b1.length : Int)) = true then some ((false, ()), ())
  else
    (g25_4 ((b1, a0, (↑a0.length : Int), 0, ()), ())).bind fun y =>
      Sum.elim (fun y => some ((y.1.1, ()), ())) (fun z => some ((true, ()), ())) y : Option rs25.den) := by kernel_rfl
theorem F28_eq (key0 : Int) (seed1 : Int) : F28 (key0, seed1, ()) = (
  some
    ((bitop BinOp.xor IntKind.u64
          (IntKind.u64.wrap
            (bitop BinOp.xor IntKind.u64
                (IntKind.u64.wrap
                  (bitop BinOp.xor IntKind.u64
                      (IntKind.u64.wrap
                        (IntKind.u64.wrap key0 + IntKind.u64.wrap (IntKind.u64.wrap seed1 * 11400714819323198485)))
                      ((IntKind.u64.wrap
                            (IntKind.u64.wrap key0 +
                              IntKind.u64.wrap (IntKind.u64.wrap seed1 * 11400714819323198485))).fdiv
                        (2 ^ 30)) *
                    13787848793156543929))
                ((IntKind.u64.wrap
                      (bitop BinOp.xor IntKind.u64
                          (IntKind.u64.wrap
                            (IntKind.u64.wrap key0 + IntKind.u64.wrap (IntKind.u64.wrap seed1 * 11400714819323198485)))
                          ((IntKind.u64.wrap
                                (IntKind.u64.wrap key0 +
                                  IntKind.u64.wrap (IntKind.u64.wrap seed1 * 11400714819323198485))).fdiv
                            (2 ^ 30)) *
                        13787848793156543929)).fdiv
                  (2 ^ 27)) *
              10723151780598845931))
          ((IntKind.u64.wrap
                (bitop BinOp.xor IntKind.u64
                    (IntKind.u64.wrap
                      (bitop BinOp.xor IntKind.u64
                          (IntKind.u64.wrap
                            (IntKind.u64.wrap key0 + IntKind.u64.wrap (IntKind.u64.wrap seed1 * 11400714819323198485)))
                          ((IntKind.u64.wrap
                                (IntKind.u64.wrap key0 +
                                  IntKind.u64.wrap (IntKind.u64.wrap seed1 * 11400714819323198485))).fdiv
                            (2 ^ 30)) *
                        13787848793156543929))
                    ((IntKind.u64.wrap
                          (bitop BinOp.xor IntKind.u64
                              (IntKind.u64.wrap
                                (IntKind.u64.wrap key0 +
                                  IntKind.u64.wrap (IntKind.u64.wrap seed1 * 11400714819323198485)))
                              ((IntKind.u64.wrap
                                    (IntKind.u64.wrap key0 +
                                      IntKind.u64.wrap (IntKind.u64.wrap seed1 * 11400714819323198485))).fdiv
                                (2 ^ 30)) *
                            13787848793156543929)).fdiv
                      (2 ^ 27)) *
                  10723151780598845931)).fdiv
            (2 ^ 31)),
        ()),
      ()) : Option rs28.den) := by kernel_rfl
theorem F53_eq (x0_0 : Int) (x0_1 : Int) (y1_0 : Int) (y1_1 : Int) : F53 ((x0_0, x0_1), (y1_0, y1_1), ()) = (
  some ((decide (x0_0 < y1_0), ()), ()) : Option rs53.den) := by kernel_rfl
theorem S52_2_eq (F53 : (SV.denL ps53) → Option (rs53).den) (a0 : List (Int × Int)) (b1 : List (Int × Int)) (rw0 : List (Int × Int)) : S52_2 F53 ((a0, b1, (), (), ()), (rw0, ())) = (
  if decide ((↑a0.length : Int) > 0) = true then
    if decide ((↑b1.length : Int) > 0) = true then
      if 0 < (↑b1.length : Int) then
        if 0 < (↑a0.length : Int) then
          (F53 (((b1.getD 0 (0, 0)).1, (b1.getD 0 (0, 0)).2), ((a0.getD 0 (0, 0)).1, (a0.getD 0 (0, 0)).2), ())).bind
            fun y =>
            if y.1.1 = true then
              if 0 < (↑b1.length : Int) then
                if rw0.length + [((b1.getD 0 (0, 0)).1, (b1.getD 0 (0, 0)).2)].length ≤ 4294967296 then
                  if 1 ≤ (↑b1.length : Int) then
                    if (↑b1.length : Int) ≤ (↑b1.length : Int) then
                      some
                        (Sum.inl
                          ((a0, List.drop 1 b1, (), (), ()), rw0 ++ [((b1.getD 0 (0, 0)).1, (b1.getD 0 (0, 0)).2)], ()))
                    else none
                  else none
                else none
              else none
            else
              if 0 < (↑a0.length : Int) then
                if rw0.length + [((a0.getD 0 (0, 0)).1, (a0.getD 0 (0, 0)).2)].length ≤ 4294967296 then
                  if 1 ≤ (↑a0.length : Int) then
                    if (↑a0.length : Int) ≤ (↑a0.length : Int) then
                      some
                        (Sum.inl
                          ((List.drop 1 a0, b1, (), (), ()), rw0 ++ [((a0.getD 0 (0, 0)).1, (a0.getD 0 (0, 0)).2)], ()))
                    else none
                  else none
                else none
              else none
        else none
      else none
    else some (Sum.inr ((a0, b1, (), ()), rw0, ()))
  else some (Sum.inr ((a0, b1, (), ()), rw0, ())) : Option (sh52_2.den ⊕ denX w52_2)) := by kernel_rfl
theorem F52_eq (g52_2 : sh52_2.den → Option (denX w52_2)) (a0 : List (Int × Int)) (b1 : List (Int × Int)) : F52 g52_2 (a0, b1, (), ()) = (
  if 0 ≤ IntKind.i64.wrap ((↑a0.length : Int) + (↑b1.length : Int)) then
    if IntKind.i64.wrap ((↑a0.length : Int) + (↑b1.length : Int)) ≤ ((4294967296 : Nat) : Int) then
      (g52_2 ((a0, b1, (), (), ()), [], ())).bind fun y =>
        if List.length y.2.1 + List.length y.1.1 ≤ 4294967296 then
          if (y.2.1 ++ y.1.1).length + List.length y.1.2.1 ≤ 4294967296 then some ((y.2.1 ++ y.1.1 ++ y.1.2.1, ()), ())
          else none
        else none
    else none
  else none : Option rs52.den) := by kernel_rfl
theorem F74_eq (s0 : List (Int × Int)) : F74 (s0, ()) = (
  if 0 < s0.length then if 0 + s0.length ≤ 4294967296 then some ((s0, ()), ()) else none
  else meet (some (([], ()), ())) (if 0 + s0.length ≤ 4294967296 then some ((s0, ()), ()) else none) : Option rs74.den) := by kernel_rfl
theorem F56_eq (F52 : (SV.denL ps52) → Option (rs52).den) (R56 : (SV.denL ps56) → Option (rs56).den) (F74 : (SV.denL ps74) → Option (rs74).den) (l0 : List (Int × Int)) : F56 F52 R56 F74 (l0, (), ()) = (
  if decide ((↑l0.length : Int) < 2) = true then (F74 (l0, ())).bind fun y => some ((y.1.1, ()), ())
  else
    if 0 ≤ IntKind.i64.wrap ((↑l0.length : Int).tdiv 2) then
      if IntKind.i64.wrap ((↑l0.length : Int).tdiv 2) ≤ (↑l0.length : Int) then
        (R56 (List.take (IntKind.i64.wrap ((↑l0.length : Int).tdiv 2)).toNat l0, (), ())).bind fun y =>
          if 0 ≤ IntKind.i64.wrap ((↑l0.length : Int).tdiv 2) then
            if IntKind.i64.wrap ((↑l0.length : Int).tdiv 2) ≤ (↑l0.length : Int) then
              if (↑l0.length : Int) ≤ (↑l0.length : Int) then
                (R56 (List.drop (IntKind.i64.wrap ((↑l0.length : Int).tdiv 2)).toNat l0, (), ())).bind fun y_1 =>
                  (F52 (y.1.1, y_1.1.1, (), ())).bind fun y => some ((y.1.1, ()), ())
              else none
            else none
          else none
      else none
    else none : Option rs56.den) := by kernel_rfl
theorem F30_eq (F56 : (SV.denL ps56) → Option (rs56).den) (l0 : List (Int × Int)) : F30 F56 (l0, ()) = (
  (F56 (l0, (), ())).bind fun y => some ((y.1.1, ()), ()) : Option rs30.den) := by kernel_rfl
theorem S24_6_eq (l0 : List (Int × Int)) (i4 : Int) (at5 : Int) (rw0 : List (Int × Int)) : S24_6 ((l0, (), i4, at5, ()), (rw0, ())) = (
  if decide (at5 > 0) = true then
    if 0 ≤ IntKind.i64.wrap (at5 - 1) then
      if IntKind.i64.wrap (at5 - 1) < (↑rw0.length : Int) then
        if 0 ≤ i4 then
          if i4 < (↑l0.length : Int) then
            if decide ((rw0.getD (IntKind.i64.wrap (at5 - 1)).toNat (0, 0)).1 > (l0.getD i4.toNat (0, 0)).1) = true then
              some (Sum.inl ((l0, (), i4, IntKind.i64.wrap (at5 - 1), ()), rw0, ()))
            else some (Sum.inr ((l0, (), i4, at5, ()), rw0, ()))
          else none
        else none
      else none
    else none
  else some (Sum.inr ((l0, (), i4, at5, ()), rw0, ())) : Option (sh24_6.den ⊕ denX w24_6)) := by kernel_rfl
theorem S24_3_eq (g24_6 : sh24_6.den → Option (denX w24_6)) (l0 : List (Int × Int)) (i4 : Int) (rw0 : List (Int × Int)) : S24_3 g24_6 ((l0, (), i4, ()), (rw0, ())) = (
  if decide (i4 < (↑l0.length : Int)) = true then
    (g24_6 ((l0, (), i4, (↑rw0.length : Int), ()), rw0, ())).bind fun y =>
      if List.length y.2.1 + 1 ≤ 4294967296 then
        if 0 ≤ IntKind.i64.wrap (y.1.2.2.2.1 + 1) then
          if IntKind.i64.wrap (y.1.2.2.2.1 + 1) ≤ (↑(y.2.1 ++ [(0, 0)]).length : Int) then
            if (↑(y.2.1 ++ [(0, 0)]).length : Int) ≤ (↑(y.2.1 ++ [(0, 0)]).length : Int) then
              if 0 ≤ y.1.2.2.2.1 then
                if y.1.2.2.2.1 ≤ (↑(y.2.1 ++ [(0, 0)]).length : Int) then
                  if (↑(y.2.1 ++ [(0, 0)]).length : Int) ≤ (↑(y.2.1 ++ [(0, 0)]).length : Int) then
                    if 0 ≤ y.1.2.2.1 then
                      if y.1.2.2.1 < (↑(List.length y.1.1) : Int) then
                        if 0 ≤ y.1.2.2.2.1 then
                          if
                              y.1.2.2.2.1 <
                                (↑(List.take (IntKind.i64.wrap (y.1.2.2.2.1 + 1)).toNat (y.2.1 ++ [(0, 0)]) ++
                                          List.take
                                            ((y.2.1 ++ [(0, 0)]).length - (IntKind.i64.wrap (y.1.2.2.2.1 + 1)).toNat)
                                            (List.take ((y.2.1 ++ [(0, 0)]).length - Int.toNat y.1.2.2.2.1)
                                              (List.drop (Int.toNat y.1.2.2.2.1) (y.2.1 ++ [(0, 0)]))) ++
                                        List.drop
                                          ((IntKind.i64.wrap (y.1.2.2.2.1 + 1)).toNat +
                                            min
                                              (List.take ((y.2.1 ++ [(0, 0)]).length - Int.toNat y.1.2.2.2.1)
                                                  (List.drop (Int.toNat y.1.2.2.2.1) (y.2.1 ++ [(0, 0)]))).length
                                              ((y.2.1 ++ [(0, 0)]).length - (IntKind.i64.wrap (y.1.2.2.2.1 + 1)).toNat))
                                          (y.2.1 ++ [(0, 0)])).length :
                                  Int) then
                            some
                              (Sum.inl
                                ((y.1.1, (), IntKind.i64.wrap (y.1.2.2.1 + 1), ()),
                                  (List.take (IntKind.i64.wrap (y.1.2.2.2.1 + 1)).toNat (y.2.1 ++ [(0, 0)]) ++
                                          List.take
                                            ((y.2.1 ++ [(0, 0)]).length - (IntKind.i64.wrap (y.1.2.2.2.1 + 1)).toNat)
                                            (List.take ((y.2.1 ++ [(0, 0)]).length - Int.toNat y.1.2.2.2.1)
                                              (List.drop (Int.toNat y.1.2.2.2.1) (y.2.1 ++ [(0, 0)]))) ++
                                        List.drop
                                          ((IntKind.i64.wrap (y.1.2.2.2.1 + 1)).toNat +
                                            min
                                              (List.take ((y.2.1 ++ [(0, 0)]).length - Int.toNat y.1.2.2.2.1)
                                                  (List.drop (Int.toNat y.1.2.2.2.1) (y.2.1 ++ [(0, 0)]))).length
                                              ((y.2.1 ++ [(0, 0)]).length - (IntKind.i64.wrap (y.1.2.2.2.1 + 1)).toNat))
                                          (y.2.1 ++ [(0, 0)])).set
                                    (Int.toNat y.1.2.2.2.1)
                                    ((List.getD y.1.1 (Int.toNat y.1.2.2.1) (0, 0)).1,
                                      (List.getD y.1.1 (Int.toNat y.1.2.2.1) (0, 0)).2),
                                  ()))
                          else none
                        else none
                      else none
                    else none
                  else none
                else none
              else none
            else none
          else none
        else none
      else none
  else some (Sum.inr (((), ()), rw0, ())) : Option (sh24_3.den ⊕ denX w24_3)) := by kernel_rfl
theorem F24_eq (g24_3 : sh24_3.den → Option (denX w24_3)) (l0 : List (Int × Int)) : F24 g24_3 (l0, ()) = (
  (g24_3 ((l0, (), 0, ()), [], ())).bind fun y => some ((y.2.1, ()), ()) : Option rs24.den) := by kernel_rfl
theorem S51_2_eq (F53 : (SV.denL ps53) → Option (rs53).den) (l0 : List (Int × Int)) (t5 : Int) (t6 : Int) : S51_2 F53 ((l0, t5, t6, ()), ()) = (
  if decide (t6 < t5) = true then
    if decide (t6 > 0) = true then
      if 0 ≤ t6 then
        if t6 < (↑l0.length : Int) then
          if 0 ≤ IntKind.i64.wrap (t6 - 1) then
            if IntKind.i64.wrap (t6 - 1) < (↑l0.length : Int) then
              (F53
                    (((l0.getD t6.toNat (0, 0)).1, (l0.getD t6.toNat (0, 0)).2),
                      ((l0.getD (IntKind.i64.wrap (t6 - 1)).toNat (0, 0)).1,
                        (l0.getD (IntKind.i64.wrap (t6 - 1)).toNat (0, 0)).2),
                      ())).bind
                fun y =>
                if y.1.1 = true then some (Sum.inr (Sum.inl ((9, ()), ())))
                else some (Sum.inl ((l0, t5, IntKind.i64.wrap (t6 + 1), ()), ()))
            else none
          else none
        else none
      else none
    else some (Sum.inl ((l0, t5, IntKind.i64.wrap (t6 + 1), ()), ()))
  else some (Sum.inr (Sum.inr ((), ()))) : Option (sh51_2.den ⊕ denX w51_2)) := by kernel_rfl
theorem F51_eq (g51_2 : sh51_2.den → Option (denX w51_2)) (l0 : List (Int × Int)) : F51 g51_2 (l0, ()) = (
  (g51_2 ((l0, (↑l0.length : Int), 0, ()), ())).bind fun y =>
    Sum.elim (fun y => some ((y.1.1, ()), ())) (fun z => some ((0, ()), ())) y : Option rs51.den) := by kernel_rfl
theorem S54_2_eq (l0 : List (Int × Int)) (i3 : Int) : S54_2 ((l0, i3, ()), ()) = (
  if decide (i3 < (↑l0.length : Int)) = true then
    if 0 ≤ i3 then
      if i3 < (↑l0.length : Int) then
        if 0 ≤ IntKind.i64.wrap (i3 - 1) then
          if IntKind.i64.wrap (i3 - 1) < (↑l0.length : Int) then
            if decide ((l0.getD i3.toNat (0, 0)).1 < (l0.getD (IntKind.i64.wrap (i3 - 1)).toNat (0, 0)).1) = true then
              some (Sum.inr (Sum.inl ((false, ()), ())))
            else some (Sum.inl ((l0, IntKind.i64.wrap (i3 + 1), ()), ()))
          else none
        else none
      else none
    else none
  else some (Sum.inr (Sum.inr ((), ()))) : Option (sh54_2.den ⊕ denX w54_2)) := by kernel_rfl
theorem F54_eq (g54_2 : sh54_2.den → Option (denX w54_2)) (l0 : List (Int × Int)) : F54 g54_2 (l0, ()) = (
  (g54_2 ((l0, 1, ()), ())).bind fun y => Sum.elim (fun y => some ((y.1.1, ()), ())) (fun z => some ((true, ()), ())) y : Option rs54.den) := by kernel_rfl
theorem S55r_2_eq (F53 : (SV.denL ps53) → Option (rs53).den) (at1 : Int) (top4 : Int) (t8 : Int) (rw0 : List (Int × Int)) : S55r_2 F53 (((), at1, top4, t8, ()), (rw0, ())) = (
  if decide (t8 < 2) = true then
    if
        decide (IntKind.i64.wrap (IntKind.i64.wrap (IntKind.i64.wrap (2 * at1) + 1) + t8) < (↑rw0.length : Int)) =
          true then
      if 0 ≤ top4 then
        if top4 < (↑rw0.length : Int) then
          if 0 ≤ IntKind.i64.wrap (IntKind.i64.wrap (IntKind.i64.wrap (2 * at1) + 1) + t8) then
            if IntKind.i64.wrap (IntKind.i64.wrap (IntKind.i64.wrap (2 * at1) + 1) + t8) < (↑rw0.length : Int) then
              (F53
                    (((rw0.getD top4.toNat (0, 0)).1, (rw0.getD top4.toNat (0, 0)).2),
                      ((rw0.getD (IntKind.i64.wrap (IntKind.i64.wrap (IntKind.i64.wrap (2 * at1) + 1) + t8)).toNat
                            (0, 0)).1,
                        (rw0.getD (IntKind.i64.wrap (IntKind.i64.wrap (IntKind.i64.wrap (2 * at1) + 1) + t8)).toNat
                            (0, 0)).2),
                      ())).bind
                fun y =>
                if y.1.1 = true then
                  some
                    (Sum.inl
                      (((), at1, IntKind.i64.wrap (IntKind.i64.wrap (IntKind.i64.wrap (2 * at1) + 1) + t8),
                          IntKind.i64.wrap (t8 + 1), ()),
                        rw0, ()))
                else some (Sum.inl (((), at1, top4, IntKind.i64.wrap (t8 + 1), ()), rw0, ()))
            else none
          else none
        else none
      else none
    else some (Sum.inl (((), at1, top4, IntKind.i64.wrap (t8 + 1), ()), rw0, ()))
  else some (Sum.inr (((), at1, top4, ()), rw0, ())) : Option (sh55r_2.den ⊕ denX w55r_2)) := by kernel_rfl
theorem S55r_0_eq (g55r_2 : sh55r_2.den → Option (denX w55r_2)) (at1 : Int) (rw0 : List (Int × Int)) : S55r_0 g55r_2 (((), at1, ()), (rw0, ())) = (
  (g55r_2 (((), at1, at1, 0, ()), rw0, ())).bind fun y =>
    if (y.1.2.2.1 == y.1.2.1) = true then some (Sum.inr (((), ()), y.2.1, ()))
    else
      if 0 ≤ y.1.2.2.1 then
        if y.1.2.2.1 < (↑(List.length y.2.1) : Int) then
          if 0 ≤ y.1.2.1 then
            if y.1.2.1 < (↑(List.length y.2.1) : Int) then
              if 0 ≤ y.1.2.1 then
                if y.1.2.1 < (↑(List.length y.2.1) : Int) then
                  if 0 ≤ y.1.2.2.1 then
                    if
                        y.1.2.2.1 <
                          (↑(List.set y.2.1 (Int.toNat y.1.2.1)
                                  ((List.getD y.2.1 (Int.toNat y.1.2.2.1) (0, 0)).1,
                                    (List.getD y.2.1 (Int.toNat y.1.2.2.1) (0, 0)).2)).length :
                            Int) then
                      some
                        (Sum.inl
                          (((), y.1.2.2.1, ()),
                            (List.set y.2.1 (Int.toNat y.1.2.1)
                                  ((List.getD y.2.1 (Int.toNat y.1.2.2.1) (0, 0)).1,
                                    (List.getD y.2.1 (Int.toNat y.1.2.2.1) (0, 0)).2)).set
                              (Int.toNat y.1.2.2.1)
                              ((List.getD y.2.1 (Int.toNat y.1.2.1) (0, 0)).1,
                                (List.getD y.2.1 (Int.toNat y.1.2.1) (0, 0)).2),
                            ()))
                    else none
                  else none
                else none
              else none
            else none
          else none
        else none
      else none : Option (sh55r_0.den ⊕ denX w55r_0)) := by kernel_rfl
theorem F55r_eq (g55r_0 : sh55r_0.den → Option (denX w55r_0)) (at1 : Int) (rw0 : List (Int × Int)) : F55r g55r_0 (((), at1, ()), (rw0, ())) = (
  ((g55r_0 (((), at1, ()), rw0, ())).bind fun y => some (((), ()), y.2.1, ())).bind fun z => some z : Option rs55r.den) := by kernel_rfl
theorem S55s_2_eq (F53 : (SV.denL ps53) → Option (rs53).den) (l0l : Nat) (at1 : Int) (top4 : Int) (t8 : Int) (rw0 : List (Int × Int)) : S55s_2 F53 ((l0l, at1, top4, t8, ()), (rw0, ())) = (
  if decide (t8 < 2) = true then
    if decide (IntKind.i64.wrap (IntKind.i64.wrap (IntKind.i64.wrap (2 * at1) + 1) + t8) < (↑l0l : Int)) = true then
      if 0 ≤ top4 then
        if top4 < (↑l0l : Int) then
          if 0 ≤ IntKind.i64.wrap (IntKind.i64.wrap (IntKind.i64.wrap (2 * at1) + 1) + t8) then
            if IntKind.i64.wrap (IntKind.i64.wrap (IntKind.i64.wrap (2 * at1) + 1) + t8) < (↑l0l : Int) then
              (F53
                    (((rw0.getD (0 + top4.toNat) (0, 0)).1, (rw0.getD (0 + top4.toNat) (0, 0)).2),
                      ((rw0.getD (0 + (IntKind.i64.wrap (IntKind.i64.wrap (IntKind.i64.wrap (2 * at1) + 1) + t8)).toNat)
                            (0, 0)).1,
                        (rw0.getD (0 + (IntKind.i64.wrap (IntKind.i64.wrap (IntKind.i64.wrap (2 * at1) + 1) + t8)).toNat)
                            (0, 0)).2),
                      ())).bind
                fun y =>
                if y.1.1 = true then
                  some
                    (Sum.inl
                      ((l0l, at1, IntKind.i64.wrap (IntKind.i64.wrap (IntKind.i64.wrap (2 * at1) + 1) + t8),
                          IntKind.i64.wrap (t8 + 1), ()),
                        rw0, ()))
                else some (Sum.inl ((l0l, at1, top4, IntKind.i64.wrap (t8 + 1), ()), rw0, ()))
            else none
          else none
        else none
      else none
    else some (Sum.inl ((l0l, at1, top4, IntKind.i64.wrap (t8 + 1), ()), rw0, ()))
  else some (Sum.inr ((l0l, at1, top4, ()), rw0, ())) : Option (sh55s_2.den ⊕ denX w55s_2)) := by kernel_rfl
theorem S55s_0_eq (g55s_2 : sh55s_2.den → Option (denX w55s_2)) (l0l : Nat) (at1 : Int) (rw0 : List (Int × Int)) : S55s_0 g55s_2 ((l0l, at1, ()), (rw0, ())) = (
  (g55s_2 ((l0l, at1, at1, 0, ()), rw0, ())).bind fun y =>
    if (y.1.2.2.1 == y.1.2.1) = true then some (Sum.inr ((y.1.1, ()), y.2.1, ()))
    else
      if 0 ≤ y.1.2.2.1 then
        if y.1.2.2.1 < (↑y.1.1 : Int) then
          if 0 ≤ y.1.2.1 then
            if y.1.2.1 < (↑y.1.1 : Int) then
              if 0 ≤ y.1.2.1 then
                if y.1.2.1 < (↑y.1.1 : Int) then
                  if 0 ≤ y.1.2.2.1 then
                    if y.1.2.2.1 < (↑y.1.1 : Int) then
                      some
                        (Sum.inl
                          ((y.1.1, y.1.2.2.1, ()),
                            (List.set y.2.1 (0 + Int.toNat y.1.2.1)
                                  ((List.getD y.2.1 (0 + Int.toNat y.1.2.2.1) (0, 0)).1,
                                    (List.getD y.2.1 (0 + Int.toNat y.1.2.2.1) (0, 0)).2)).set
                              (0 + Int.toNat y.1.2.2.1)
                              ((List.getD y.2.1 (0 + Int.toNat y.1.2.1) (0, 0)).1,
                                (List.getD y.2.1 (0 + Int.toNat y.1.2.1) (0, 0)).2),
                            ()))
                    else none
                  else none
                else none
              else none
            else none
          else none
        else none
      else none : Option (sh55s_0.den ⊕ denX w55s_0)) := by kernel_rfl
theorem F55s_eq (g55s_0 : sh55s_0.den → Option (denX w55s_0)) (l0l : Nat) (at1 : Int) (rw0 : List (Int × Int)) : F55s g55s_0 ((l0l, at1, ()), (rw0, ())) = (
  ((g55s_0 ((l0l, at1, ()), rw0, ())).bind fun y => some ((y.1.1, ()), y.2.1, ())).bind fun z =>
    if (rw0.length.beq (List.length z.2.1) && true) = true then some z else none : Option rs55s.den) := by kernel_rfl
theorem S26_4_eq (F55r : (psh55r.den) → Option (rs55r).den) (F55s : (psh55s.den) → Option (rs55s).den) (t14 : Int) (t15 : Int) (rw0 : List (Int × Int)) : S26_4 F55r F55s (((), t14, t15, ()), (rw0, ())) = (
  if decide (t15 < t14) = true then
    (F55r
          (((), IntKind.i64.wrap (IntKind.i64.wrap (IntKind.i64.wrap ((↑rw0.length : Int).tdiv 2) - 1) - t15), ()), rw0,
            ())).bind
      fun z => some (Sum.inl (((), t14, IntKind.i64.wrap (t15 + 1), ()), z.2.1, ()))
  else some (Sum.inr (((), ()), rw0, ())) : Option (sh26_4.den ⊕ denX w26_4)) := by kernel_rfl
theorem S26_9_eq (F55r : (psh55r.den) → Option (rs55r).den) (F55s : (psh55s.den) → Option (rs55s).den) (n5 : Int) (rw0 : List (Int × Int)) : S26_9 F55r F55s (((), n5, ()), (rw0, ())) = (
  if decide (n5 > 0) = true then
    if 0 ≤ n5 then
      if n5 < (↑rw0.length : Int) then
        if 0 < (↑rw0.length : Int) then
          if 0 < (↑rw0.length : Int) then
            if 0 ≤ n5 then
              if n5 < (↑(rw0.set 0 ((rw0.getD n5.toNat (0, 0)).1, (rw0.getD n5.toNat (0, 0)).2)).length : Int) then
                if 0 ≤ n5 then
                  if
                      n5 ≤
                        (↑((rw0.set 0 ((rw0.getD n5.toNat (0, 0)).1, (rw0.getD n5.toNat (0, 0)).2)).set n5.toNat
                                ((rw0.getD 0 (0, 0)).1, (rw0.getD 0 (0, 0)).2)).length :
                          Int) then
                    (F55s
                          ((n5.toNat - 0, 0, ()),
                            (rw0.set 0 ((rw0.getD n5.toNat (0, 0)).1, (rw0.getD n5.toNat (0, 0)).2)).set n5.toNat
                              ((rw0.getD 0 (0, 0)).1, (rw0.getD 0 (0, 0)).2),
                            ())).bind
                      fun z => some (Sum.inl (((), IntKind.i64.wrap (n5 - 1), ()), z.2.1, ()))
                  else none
                else none
              else none
            else none
          else none
        else none
      else none
    else none
  else some (Sum.inr (((), ()), rw0, ())) : Option (sh26_9.den ⊕ denX w26_9)) := by kernel_rfl
theorem F27_eq (F26 : (SV.denL ps26) → Option (rs26).den) (l0 : List (Int × Int)) (k1 : Int) : F27 F26 (l0, k1, ()) = (
  if decide (k1 < 0) = true then some ((0, 26, ()), ())
  else
    if decide (k1 ≥ (↑l0.length : Int)) = true then some ((0, 26, ()), ())
    else
      (F26 (l0, ())).bind fun y =>
        if 0 ≤ k1 then
          if k1 < (↑(List.length y.1.1) : Int) then some (((List.getD y.1.1 k1.toNat (0, 0)).1, 0, ()), ()) else none
        else none : Option rs27.den) := by kernel_rfl
theorem F29_eq (key0 : Int) (seed1 : Int) : F29 (key0, seed1, ()) = (
  some
    ((bitop BinOp.xor IntKind.u64
          (IntKind.u64.wrap
            (bitop BinOp.xor IntKind.u64
                (IntKind.u64.wrap
                  (bitop BinOp.xor IntKind.u64
                      (IntKind.u64.wrap
                        (IntKind.u64.wrap key0 + IntKind.u64.wrap (IntKind.u64.wrap seed1 * 11400714819323198485)))
                      ((IntKind.u64.wrap
                            (IntKind.u64.wrap key0 +
                              IntKind.u64.wrap (IntKind.u64.wrap seed1 * 11400714819323198485))).fdiv
                        (2 ^ 30)) *
                    13787848793156543929))
                ((IntKind.u64.wrap
                      (bitop BinOp.xor IntKind.u64
                          (IntKind.u64.wrap
                            (IntKind.u64.wrap key0 + IntKind.u64.wrap (IntKind.u64.wrap seed1 * 11400714819323198485)))
                          ((IntKind.u64.wrap
                                (IntKind.u64.wrap key0 +
                                  IntKind.u64.wrap (IntKind.u64.wrap seed1 * 11400714819323198485))).fdiv
                            (2 ^ 30)) *
                        13787848793156543929)).fdiv
                  (2 ^ 27)) *
              10723151780598845931))
          ((IntKind.u64.wrap
                (bitop BinOp.xor IntKind.u64
                    (IntKind.u64.wrap
                      (bitop BinOp.xor IntKind.u64
                          (IntKind.u64.wrap
                            (IntKind.u64.wrap key0 + IntKind.u64.wrap (IntKind.u64.wrap seed1 * 11400714819323198485)))
                          ((IntKind.u64.wrap
                                (IntKind.u64.wrap key0 +
                                  IntKind.u64.wrap (IntKind.u64.wrap seed1 * 11400714819323198485))).fdiv
                            (2 ^ 30)) *
                        13787848793156543929))
                    ((IntKind.u64.wrap
                          (bitop BinOp.xor IntKind.u64
                              (IntKind.u64.wrap
                                (IntKind.u64.wrap key0 +
                                  IntKind.u64.wrap (IntKind.u64.wrap seed1 * 11400714819323198485)))
                              ((IntKind.u64.wrap
                                    (IntKind.u64.wrap key0 +
                                      IntKind.u64.wrap (IntKind.u64.wrap seed1 * 11400714819323198485))).fdiv
                                (2 ^ 30)) *
                            13787848793156543929)).fdiv
                      (2 ^ 27)) *
                  10723151780598845931)).fdiv
            (2 ^ 31)),
        ()),
      ()) : Option rs29.den) := by kernel_rfl
theorem S31_5_eq (l0 : List (Int × Int)) (key1 : Int) (from7 : Int) (to8 : Int) : S31_5 ((l0, key1, from7, to8, ()), ()) = (
  if decide (from7 < to8) = true then
    if 0 ≤ IntKind.i64.wrap (from7 + IntKind.i64.wrap ((IntKind.i64.wrap (to8 - from7)).tdiv 2)) then
      if IntKind.i64.wrap (from7 + IntKind.i64.wrap ((IntKind.i64.wrap (to8 - from7)).tdiv 2)) < (↑l0.length : Int) then
        if
            decide
                ((l0.getD (IntKind.i64.wrap (from7 + IntKind.i64.wrap ((IntKind.i64.wrap (to8 - from7)).tdiv 2))).toNat
                      (0, 0)).1 <
                  key1) =
              true then
          some
            (Sum.inl
              ((l0, key1,
                  IntKind.i64.wrap
                    (IntKind.i64.wrap (from7 + IntKind.i64.wrap ((IntKind.i64.wrap (to8 - from7)).tdiv 2)) + 1),
                  to8, ()),
                ()))
        else
          some
            (Sum.inl
              ((l0, key1, from7, IntKind.i64.wrap (from7 + IntKind.i64.wrap ((IntKind.i64.wrap (to8 - from7)).tdiv 2)),
                  ()),
                ()))
      else none
    else none
  else some (Sum.inr ((from7, ()), ())) : Option (sh31_5.den ⊕ denX w31_5)) := by kernel_rfl
theorem F31_eq (F51 : (SV.denL ps51) → Option (rs51).den) (g31_5 : sh31_5.den → Option (denX w31_5)) (l0 : List (Int × Int)) (key1 : Int) : F31 F51 g31_5 (l0, key1, ()) = (
  (F51 (l0, ())).bind fun y =>
    if (!y.1.1 == 0) = true then some ((0, y.1.1, ()), ())
    else (g31_5 ((l0, key1, 0, (↑l0.length : Int), ()), ())).bind fun y => some ((y.1.1, 0, ()), ()) : Option rs31.den) := by kernel_rfl
theorem S32_4_eq (l0 : List (Int × Int)) (key1 : Int) (i6 : Int) : S32_4 ((l0, key1, i6, ()), ()) = (
  if decide (i6 < (↑l0.length : Int)) = true then
    if 0 ≤ i6 then
      if i6 < (↑l0.length : Int) then
        if decide ((l0.getD i6.toNat (0, 0)).1 < key1) = true then
          some (Sum.inl ((l0, key1, IntKind.i64.wrap (i6 + 1), ()), ()))
        else some (Sum.inr ((i6, ()), ()))
      else none
    else none
  else some (Sum.inr ((i6, ()), ())) : Option (sh32_4.den ⊕ denX w32_4)) := by kernel_rfl
theorem F32_eq (F54 : (SV.denL ps54) → Option (rs54).den) (g32_4 : sh32_4.den → Option (denX w32_4)) (l0 : List (Int × Int)) (key1 : Int) : F32 F54 g32_4 (l0, key1, ()) = (
  (F54 (l0, ())).bind fun y =>
    if (!y.1.1) = true then some ((0, 9, ()), ())
    else (g32_4 ((l0, key1, 0, ()), ())).bind fun y => some ((y.1.1, 0, ()), ()) : Option rs32.den) := by kernel_rfl
theorem F33_eq (F24 : (SV.denL ps24) → Option (rs24).den) (l0 : List (Int × Int)) (k1 : Int) : F33 F24 (l0, k1, ()) = (
  if decide (k1 < 0) = true then some ((0, 26, ()), ())
  else
    if decide (k1 ≥ (↑l0.length : Int)) = true then some ((0, 26, ()), ())
    else
      (F24 (l0, ())).bind fun y =>
        if 0 ≤ k1 then
          if k1 < (↑(List.length y.1.1) : Int) then some (((List.getD y.1.1 k1.toNat (0, 0)).1, 0, ()), ()) else none
        else none : Option rs33.den) := by kernel_rfl
theorem F7_eq (F10 : (SV.denL ps10) → Option (rs10).den) (F22 : (SV.denL ps22) → Option (rs22).den) (F24 : (SV.denL ps24) → Option (rs24).den) (F25 : (SV.denL ps25) → Option (rs25).den) (F27 : (SV.denL ps27) → Option (rs27).den) (F28 : (SV.denL ps28) → Option (rs28).den) (F29 : (SV.denL ps29) → Option (rs29).den) (F30 : (SV.denL ps30) → Option (rs30).den) (F31 : (SV.denL ps31) → Option (rs31).den) (F32 : (SV.denL ps32) → Option (rs32).den) (F33 : (SV.denL ps33) → Option (rs33).den) (l0 : List (Int × Int)) (key1 : Int) (k2 : Int) : F7 F10 F22 F24 F25 F27 F28 F29 F30 F31 F32 F33 (l0, key1, k2, ()) = (
  if decide ((↑l0.length : Int) > 200) = true then (F10 ()).bind fun y => some ((y.1.1, ()), ())
  else
    (F28 (key1, k2, ())).bind fun y =>
      (F29 (key1, k2, ())).bind fun y_1 =>
        if (!y.1.1 == y_1.1.1) = true then some ((false, ()), ())
        else
          (F22 (l0, ())).bind fun y =>
            (F30 (y.1.1, ())).bind fun y =>
              (F24 (l0, ())).bind fun y_2 =>
                (F25 (y.1.1, y_2.1.1, ())).bind fun y =>
                  if (!y.1.1) = true then some ((false, ()), ())
                  else
                    (F22 (l0, ())).bind fun y =>
                      (F31 (y.1.1, key1, ())).bind fun y =>
                        (F32 (l0, key1, ())).bind fun y_3 =>
                          (F22 (l0, ())).bind fun y_4 =>
                            (F27 (y_4.1.1, k2, ())).bind fun y_5 =>
                              (F33 (l0, k2, ())).bind fun y_6 =>
                                (F24 (l0, ())).bind fun y_7 =>
                                  (F22 (y_7.1.1, ())).bind fun y_8 =>
                                    (F31 (y_8.1.1, key1, ())).bind fun y_9 =>
                                      (F24 (l0, ())).bind fun y_10 =>
                                        (F32 (y_10.1.1, key1, ())).bind fun y_11 =>
                                          if (y.1.1 == y_3.1.1) = true then
                                            if (y.1.2.1 == y_3.1.2.1) = true then
                                              if (y_5.1.1 == y_6.1.1) = true then
                                                if (y_5.1.2.1 == y_6.1.2.1) = true then
                                                  if (y_9.1.1 == y_11.1.1) = true then
                                                    if (y_9.1.2.1 == y_11.1.2.1) = true then
                                                      (F10 ()).bind fun y => some ((y.1.1, ()), ())
                                                    else some ((false, ()), ())
                                                  else some ((false, ()), ())
                                                else some ((false, ()), ())
                                              else some ((false, ()), ())
                                            else some ((false, ()), ())
                                          else some ((false, ()), ()) : Option rs7.den) := by kernel_rfl
end Go.Proofs.Rf
/- The functions, evaluated. -/
set_option linter.unusedVariables false
namespace Go.Proofs.Rf
open Go Go.RowKit
theorem F26_eq (g26_4 : sh26_4.den → Option (denX w26_4)) (g26_9 : sh26_9.den → Option (denX w26_9)) (l0 : List (Int × Int)) : F26 g26_4 g26_9 (l0, ()) = (
  if (↑l0.length : Int) ≤ (↑l0.length : Int) then
    if (↑l0.length : Int) ≤ ((4294967296 : Nat) : Int) then
      (g26_4
            (((),
                IntKind.i64.wrap
                  ((↑(List.take 0 (List.replicate (↑l0.length : Int).toNat ((0, 0) : Int × Int)) ++ List.take (List.replicate (↑l0.length : Int).toNat ((0, 0) : Int × Int)).length l0 ++ List.drop (0 + min l0.length (List.replicate (↑l0.length : Int).toNat ((0, 0) : Int × Int)).length) (List.replicate (↑l0.length : Int).toNat ((0, 0) : Int × Int))).length :
                        Int).tdiv
                    2),
                0, ()),
              List.take 0 (List.replicate (↑l0.length : Int).toNat ((0, 0) : Int × Int)) ++ List.take (List.replicate (↑l0.length : Int).toNat ((0, 0) : Int × Int)).length l0 ++ List.drop (0 + min l0.length (List.replicate (↑l0.length : Int).toNat ((0, 0) : Int × Int)).length) (List.replicate (↑l0.length : Int).toNat ((0, 0) : Int × Int)),
              ())).bind
        fun y =>
        (g26_9 (((), IntKind.i64.wrap ((↑(List.length y.2.1) : Int) - 1), ()), y.2.1, ())).bind fun y =>
          some ((y.2.1, ()), ())
    else none
  else none : Option rs26.den) := by kernel_rfl
end Go.Proofs.Rf
/- The functions, filled in. -/
namespace Go.Proofs.Rf
open Go Go.RowKit
noncomputable def Lg24_6 : sh24_6.den → Option (denX w24_6) := limL (S24_6)
noncomputable def Lg24_3 : sh24_3.den → Option (denX w24_3) := limL (S24_3 Lg24_6)
noncomputable def L24 : (SV.denL ps24) → Option (rs24).den := F24 Lg24_3
theorem okL24 : CallOK Tryd.prog 24 (mkCall ps24 rs24 L24) := call24 (lim_limL _) (lim_limL _)
noncomputable def L53 : (SV.denL ps53) → Option (rs53).den := F53
theorem okL53 : CallOK Tryd.prog 53 (mkCall ps53 rs53 L53) := call53
noncomputable def Lg51_2 : sh51_2.den → Option (denX w51_2) := limL (S51_2 L53)
noncomputable def L51 : (SV.denL ps51) → Option (rs51).den := F51 Lg51_2
theorem okL51 : CallOK Tryd.prog 51 (mkCall ps51 rs51 L51) := call51 okL53 (lim_limL _)
noncomputable def Lg52_2 : sh52_2.den → Option (denX w52_2) := limL (S52_2 L53)
noncomputable def L52 : (SV.denL ps52) → Option (rs52).den := F52 Lg52_2
theorem okL52 : CallOK Tryd.prog 52 (mkCall ps52 rs52 L52) := call52 okL53 (lim_limL _)
noncomputable def Lg22_3 : sh22_3.den → Option (denX w22_3) := limL (S22_3)
noncomputable def L22 : (SV.denL ps22) → Option (rs22).den := F22 Lg22_3
theorem okL22 : CallOK Tryd.prog 22 (mkCall ps22 rs22 L22) := call22 (lim_limL _)
noncomputable def Lg54_2 : sh54_2.den → Option (denX w54_2) := limL (S54_2)
noncomputable def L54 : (SV.denL ps54) → Option (rs54).den := F54 Lg54_2
theorem okL54 : CallOK Tryd.prog 54 (mkCall ps54 rs54 L54) := call54 (lim_limL _)
noncomputable def Lg25_4 : sh25_4.den → Option (denX w25_4) := limL (S25_4)
noncomputable def L25 : (SV.denL ps25) → Option (rs25).den := F25 Lg25_4
theorem okL25 : CallOK Tryd.prog 25 (mkCall ps25 rs25 L25) := call25 (lim_limL _)
noncomputable def Lg55r_2 : sh55r_2.den → Option (denX w55r_2) := limL (S55r_2 L53)
noncomputable def Lg55r_0 : sh55r_0.den → Option (denX w55r_0) := limL (S55r_0 Lg55r_2)
noncomputable def L55r : (psh55r.den) → Option (rs55r).den := F55r Lg55r_0
theorem okL55r : CallOK Tryd.prog 55 (mkCallB psh55r rs55r m55r 1 L55r) := call55r okL53 (lim_limL _) (lim_limL _)
noncomputable def Lg55s_2 : sh55s_2.den → Option (denX w55s_2) := limL (S55s_2 L53)
noncomputable def Lg55s_0 : sh55s_0.den → Option (denX w55s_0) := limL (S55s_0 Lg55s_2)
noncomputable def L55s : (psh55s.den) → Option (rs55s).den := F55s Lg55s_0
theorem okL55s : CallOK Tryd.prog 55 (mkCallB psh55s rs55s m55s 1 L55s) := call55s okL53 (lim_limL _) (lim_limL _)
noncomputable def Lg26_4 : sh26_4.den → Option (denX w26_4) := limL (S26_4 L55r L55s)
noncomputable def Lg26_9 : sh26_9.den → Option (denX w26_9) := limL (S26_9 L55r L55s)
noncomputable def L26 : (SV.denL ps26) → Option (rs26).den := F26 Lg26_4 Lg26_9
theorem okL26 : CallOK Tryd.prog 26 (mkCall ps26 rs26 L26) := call26 okL55r okL55s (lim_limL _) (lim_limL _)
noncomputable def L27 : (SV.denL ps27) → Option (rs27).den := F27 L26
theorem okL27 : CallOK Tryd.prog 27 (mkCall ps27 rs27 L27) := call27 okL26
noncomputable def L28 : (SV.denL ps28) → Option (rs28).den := F28
theorem okL28 : CallOK Tryd.prog 28 (mkCall ps28 rs28 L28) := call28
noncomputable def L29 : (SV.denL ps29) → Option (rs29).den := F29
theorem okL29 : CallOK Tryd.prog 29 (mkCall ps29 rs29 L29) := call29
noncomputable def L74 : (SV.denL ps74) → Option (rs74).den := F74
theorem okL74 : CallOK Tryd.prog 74 (mkCall ps74 rs74 L74) := call74
noncomputable def L56 : (SV.denL ps56) → Option (rs56).den := iterF (fun R => F56 L52 R L74) 100
theorem okL56 : CallOK Tryd.prog 56 (mkCall ps56 rs56 L56) := callOK_iter ⟨Tryd.f56, Tryd.func56, by kernel_rfl, by kernel_rfl⟩ (fun R hR => call56 okL52 hR okL74) 100
noncomputable def L30 : (SV.denL ps30) → Option (rs30).den := F30 L56
theorem okL30 : CallOK Tryd.prog 30 (mkCall ps30 rs30 L30) := call30 okL56
noncomputable def Lg31_5 : sh31_5.den → Option (denX w31_5) := limL (S31_5)
noncomputable def L31 : (SV.denL ps31) → Option (rs31).den := F31 L51 Lg31_5
theorem okL31 : CallOK Tryd.prog 31 (mkCall ps31 rs31 L31) := call31 okL51 (lim_limL _)
noncomputable def Lg32_4 : sh32_4.den → Option (denX w32_4) := limL (S32_4)
noncomputable def L32 : (SV.denL ps32) → Option (rs32).den := F32 L54 Lg32_4
theorem okL32 : CallOK Tryd.prog 32 (mkCall ps32 rs32 L32) := call32 okL54 (lim_limL _)
noncomputable def L33 : (SV.denL ps33) → Option (rs33).den := F33 L24
theorem okL33 : CallOK Tryd.prog 33 (mkCall ps33 rs33 L33) := call33 okL24
end Go.Proofs.Rf
/- Lists of items: copies, comparisons, sorted lists. -/
namespace Go.Proofs.Rf
open Go

/-- Loops: what holds at the head, and becomes smaller. -/
theorem limL_ind {A B : Type} {f : A → Option (A ⊕ B)} (μ : A → Nat) (I : A → Prop) (Q : B → Prop) (h : ∀ x, I x → (∃ y, f x = some (.inl y) ∧ I y ∧ μ y < μ x) ∨ ∃ z, f x = some (.inr z) ∧ Q z) : ∀ x, I x → ∃ z, limL f x = some z ∧ Q z := by
  have key : ∀ n x, μ x = n → I x → ∃ z, limL f x = some z ∧ Q z := by
    intro n
    induction n using Nat.strongRecOn with
    | _ n ih =>
      intro x hx hI
      rw [limL_eq]
      rcases h x hI with ⟨y, h1, h2, h3⟩ | ⟨z, h1, h2⟩
      · rw [h1]
        exact ih (μ y) (by omega) y rfl h2
      · rw [h1]
        exact ⟨z, rfl, h2⟩
  exact fun x hI => key _ x rfl hI

theorem wi {n : Int} (h0 : -9223372036854775808 ≤ n) (h1 : n < 9223372036854775808) : IntKind.i64.wrap n = n := by
  simp [IntKind.wrap, IntKind.bits, IntKind.signed]
  omega

abbrev It := Int × Int

theorem getD_lt {A : Type} {l : List A} {k : Nat} (d : A) (h : k < l.length) : l.getD k d = l[k] := by simp [List.getD, h]

theorem take_snoc {A : Type} {l : List A} {d : A} {k : Nat} (h : k < l.length) : l.take k ++ [l.getD k d] = l.take (k + 1) := by
  rw [getD_lt d h, List.take_append_getElem h]

/-- A copy. -/
theorem L22_val (l : List It) (hl : l.length ≤ 1000) : L22 (l, ()) = some ((l, ()), ()) := by
  obtain ⟨z, h1, h2⟩ := limL_ind (f := S22_3) (fun x => l.length - x.1.2.2.2.1.toNat) (fun x => ∃ k : Nat, k ≤ l.length ∧ x = (((), l, (l.length : Int), (k : Int), ()), (l.take k, ()))) (fun z => z.2.1 = l) (by
    rintro x ⟨k, hk, rfl⟩
    rw [S22_3_eq]
    by_cases h : k < l.length
    · left
      refine ⟨(((), l, (l.length : Int), ((k + 1 : Nat) : Int), ()), (l.take (k + 1), ())), ?_, ⟨k + 1, by omega, rfl⟩, ?_⟩
      · rw [if_pos (decide_eq_true (by omega)), if_pos (by omega), if_pos (by omega), if_pos (by simp; omega), wi (by omega) (by omega), Int.toNat_natCast]
        rw [show (l.take k ++ [((l.getD k (0, 0)).1, (l.getD k (0, 0)).2)]) = l.take (k + 1) from take_snoc h]
        rfl
      · show l.length - ((k + 1 : Nat) : Int).toNat < l.length - (k : Int).toNat
        omega
    · right
      refine ⟨_, if_neg (by simp; omega), ?_⟩
      show l.take k = l
      exact List.take_of_length_le (by omega)) (((), l, (l.length : Int), 0, ()), ([], ())) ⟨0, by omega, rfl⟩
  show F22 Lg22_3 (l, ()) = _
  rw [F22_eq]
  show (limL S22_3 _).bind _ = _
  rw [h1]
  simp only [Option.bind_some]
  rw [h2]

theorem L25_val (l : List It) (hl : l.length ≤ 1000) : L25 (l, l, ()) = some ((true, ()), ()) := by
  obtain ⟨z, h1, h2⟩ := limL_ind (f := S25_4) (fun x => l.length - x.1.2.2.2.1.toNat) (fun x => ∃ k : Nat, k ≤ l.length ∧ x = ((l, l, (l.length : Int), (k : Int), ()), ())) (fun z => z = .inr ((), ())) (by
    rintro x ⟨k, hk, rfl⟩
    rw [S25_4_eq]
    by_cases h : k < l.length
    · left
      refine ⟨((l, l, (l.length : Int), ((k + 1 : Nat) : Int), ()), ()), ?_, ⟨k + 1, by omega, rfl⟩, ?_⟩
      · rw [if_pos (decide_eq_true (by omega)), if_pos (by omega), if_pos (by omega), if_pos (by omega), if_pos (by omega), if_neg (by simp), wi (by omega) (by omega)]
        rfl
      · show l.length - ((k + 1 : Nat) : Int).toNat < l.length - (k : Int).toNat
        omega
    · right
      exact ⟨_, if_neg (by simp; omega), rfl⟩) ((l, l, (l.length : Int), 0, ()), ()) ⟨0, by omega, rfl⟩
  show F25 Lg25_4 (l, l, ()) = _
  rw [F25_eq, if_neg (by simp)]
  show (limL S25_4 _).bind _ = _
  rw [h1, h2]
  rfl
end Go.Proofs.Rf
/- Sorted lists of items: the two checks. -/
namespace Go.Proofs.Rf
open Go Classical

/-- No item is below the one ahead of it. -/
def Srt (l : List It) : Prop := ∀ k, k + 1 < l.length → ¬ (l.getD (k + 1) (0, 0)).1 < (l.getD k (0, 0)).1

theorem L53_val (x y : It) : L53 (x, y, ()) = some ((decide (x.1 < y.1), ()), ()) := F53_eq x.1 x.2 y.1 y.2

theorem L51_val (l : List It) (hl : l.length ≤ 1000) : L51 (l, ()) = some ((if Srt l then 0 else 9, ()), ()) := by
  obtain ⟨z, h1, h2⟩ := limL_ind (f := S51_2 L53) (fun x => l.length - x.1.2.2.1.toNat) (fun x => ∃ k : Nat, k ≤ l.length ∧ (∀ j, j + 1 < k → ¬ (l.getD (j + 1) (0, 0)).1 < (l.getD j (0, 0)).1) ∧ x = ((l, (l.length : Int), (k : Int), ()), ()))
      (fun z => (z = .inl ((9, ()), ()) ∧ ¬ Srt l) ∨ (z = .inr ((), ()) ∧ Srt l)) (by
    rintro x ⟨k, hk, hs, rfl⟩
    rw [S51_2_eq]
    by_cases h : k < l.length
    · rw [if_pos (decide_eq_true (by omega))]
      by_cases h0 : k = 0
      · subst h0
        left
        refine ⟨((l, (l.length : Int), ((1 : Nat) : Int), ()), ()), ?_, ⟨1, by omega, fun j hj => by omega, rfl⟩, ?_⟩
        · rw [if_neg (by simp), wi (by omega) (by omega)]
          rfl
        · show l.length - ((1 : Nat) : Int).toNat < l.length - ((0 : Nat) : Int).toNat
          omega
      · obtain ⟨j, rfl⟩ : ∃ j, k = j + 1 := ⟨k - 1, by omega⟩
        have e1 : ((j + 1 : Nat) : Int) - 1 = (j : Int) := by omega
        rw [if_pos (decide_eq_true (by omega)), if_pos (by omega), if_pos (by omega), wi (n := ((j + 1 : Nat) : Int) - 1) (by omega) (by omega), e1, if_pos (by omega), if_pos (by omega), Int.toNat_natCast, Int.toNat_natCast,
          L53_val ((l.getD (j + 1) (0, 0)).1, (l.getD (j + 1) (0, 0)).2) ((l.getD j (0, 0)).1, (l.getD j (0, 0)).2), Option.bind_some]
        by_cases hlt : (l.getD (j + 1) (0, 0)).1 < (l.getD j (0, 0)).1
        · right
          refine ⟨_, if_pos (decide_eq_true hlt), .inl ⟨rfl, fun hS => hS j h hlt⟩⟩
        · left
          refine ⟨((l, (l.length : Int), ((j + 1 + 1 : Nat) : Int), ()), ()), ?_, ⟨j + 1 + 1, by omega, fun i hi => ?_, rfl⟩, ?_⟩
          · rw [if_neg (by simpa using hlt), wi (by omega) (by omega)]
            rfl
          · by_cases hij : i = j
            · subst hij; exact hlt
            · exact hs i (by omega)
          · show l.length - ((j + 1 + 1 : Nat) : Int).toNat < l.length - ((j + 1 : Nat) : Int).toNat
            omega
    · right
      exact ⟨_, if_neg (by simp; omega), .inr ⟨rfl, fun j hj => hs j (by omega)⟩⟩) ((l, (l.length : Int), 0, ()), ()) ⟨0, by omega, fun j hj => by omega, rfl⟩
  show F51 Lg51_2 (l, ()) = _
  rw [F51_eq]
  show (limL (S51_2 L53) _).bind _ = _
  rw [h1]
  rcases h2 with ⟨rfl, h2⟩ | ⟨rfl, h2⟩
  · rw [if_neg h2]; rfl
  · rw [if_pos h2]; rfl

theorem L54_val (l : List It) (hl : l.length ≤ 1000) : L54 (l, ()) = some ((decide (Srt l), ()), ()) := by
  obtain ⟨z, h1, h2⟩ := limL_ind (f := S54_2) (fun x => l.length + 1 - x.1.2.1.toNat) (fun x => ∃ k : Nat, 1 ≤ k ∧ k ≤ l.length + 1 ∧ (∀ j, j + 1 < k → j + 1 < l.length → ¬ (l.getD (j + 1) (0, 0)).1 < (l.getD j (0, 0)).1) ∧ x = ((l, (k : Int), ()), ()))
      (fun z => (z = .inl ((false, ()), ()) ∧ ¬ Srt l) ∨ (z = .inr ((), ()) ∧ Srt l)) (by
    rintro x ⟨k, h1, hk, hs, rfl⟩
    rw [S54_2_eq]
    by_cases h : k < l.length
    · obtain ⟨j, rfl⟩ : ∃ j, k = j + 1 := ⟨k - 1, by omega⟩
      have e1 : ((j + 1 : Nat) : Int) - 1 = (j : Int) := by omega
      rw [if_pos (decide_eq_true (by omega)), if_pos (by omega), if_pos (by omega), wi (n := ((j + 1 : Nat) : Int) - 1) (by omega) (by omega), e1, if_pos (by omega), if_pos (by omega), Int.toNat_natCast, Int.toNat_natCast]
      by_cases hlt : (l.getD (j + 1) (0, 0)).1 < (l.getD j (0, 0)).1
      · right
        refine ⟨_, if_pos (decide_eq_true hlt), .inl ⟨rfl, fun hS => hS j h hlt⟩⟩
      · left
        refine ⟨((l, ((j + 1 + 1 : Nat) : Int), ()), ()), ?_, ⟨j + 1 + 1, by omega, by omega, fun i hi hi2 => ?_, rfl⟩, ?_⟩
        · rw [if_neg (by simpa using hlt), wi (by omega) (by omega)]
          rfl
        · by_cases hij : i = j
          · subst hij; exact hlt
          · exact hs i (by omega) hi2
        · show l.length + 1 - ((j + 1 + 1 : Nat) : Int).toNat < l.length + 1 - ((j + 1 : Nat) : Int).toNat
          omega
    · right
      exact ⟨_, if_neg (by simp; omega), .inr ⟨rfl, fun j hj => hs j (by omega) hj⟩⟩) ((l, 1, ()), ()) ⟨1, by omega, by omega, fun j hj => by omega, rfl⟩
  show F54 Lg54_2 (l, ()) = _
  rw [F54_eq]
  show (limL S54_2 _).bind _ = _
  rw [h1]
  rcases h2 with ⟨rfl, h2⟩ | ⟨rfl, h2⟩
  · rw [decide_eq_false h2]; rfl
  · rw [decide_eq_true h2]; rfl

end Go.Proofs.Rf
/- Insertion, merging: the plain law of merges. -/
namespace Go.Proofs.Rf
open Go

def insL (x : It) : List It → List It
  | [] => [x]
  | y :: l => if x.1 < y.1 then x :: y :: l else y :: insL x l

def isort (l : List It) : List It := l.foldl (fun out x => insL x out) []

def mg : List It → List It → List It
  | [], b => b
  | x :: a, [] => x :: a
  | x :: a, y :: b => if y.1 < x.1 then y :: mg (x :: a) b else x :: mg a (y :: b)
termination_by a b => a.length + b.length

theorem mg_nil (a : List It) : mg a [] = a := by cases a <;> simp [mg]

abbrev Up (l : List It) : Prop := l.Pairwise fun a b => a.1 ≤ b.1

theorem insL_length (x : It) : ∀ l, (insL x l).length = l.length + 1
  | [] => rfl
  | y :: l => by
    unfold insL
    split
    · rfl
    · simp [insL_length x l]

theorem insL_mem (x z : It) : ∀ l, z ∈ insL x l → z = x ∨ z ∈ l
  | [], h => by simpa [insL] using h
  | y :: l, h => by
    unfold insL at h
    split at h
    · simpa using h
    · rcases List.mem_cons.1 h with h | h
      · exact .inr (by simp [h])
      · rcases insL_mem x z l h with h | h
        · exact .inl h
        · exact .inr (by simp [h])

theorem insL_up (x : It) : ∀ l, Up l → Up (insL x l)
  | [], _ => by simp [insL, Up]
  | y :: l, h => by
    have h1 := List.pairwise_cons.1 h
    unfold insL
    split
    · rename_i hx
      refine List.pairwise_cons.2 ⟨fun z hz => ?_, h⟩
      rcases List.mem_cons.1 hz with e | hz
      · rw [e]; omega
      · have := h1.1 z hz; omega
    · rename_i hx
      refine List.pairwise_cons.2 ⟨fun z hz => ?_, insL_up x l h1.2⟩
      rcases insL_mem x z l hz with e | hz
      · rw [e]; omega
      · exact h1.1 z hz

theorem isort_snoc (l : List It) (x : It) : isort (l ++ [x]) = insL x (isort l) := by simp [isort]

theorem foldl_up : ∀ (l : List It) (out : List It), Up out → Up (l.foldl (fun out x => insL x out) out)
  | [], _, h => h
  | x :: l, out, h => foldl_up l _ (insL_up x out h)

theorem isort_up (l : List It) : Up (isort l) := foldl_up l [] List.Pairwise.nil

theorem foldl_length : ∀ (l : List It) (out : List It), (l.foldl (fun out x => insL x out) out).length = out.length + l.length
  | [], _ => rfl
  | x :: l, out => by
    rw [List.foldl_cons, foldl_length l, insL_length, List.length_cons]
    omega

theorem isort_length (l : List It) : (isort l).length = l.length := by
  unfold isort
  rw [foldl_length]
  simp

/-- Where an item is put. -/
theorem insL_at (x : It) : ∀ (out : List It) (k : Nat), Up out → k ≤ out.length → (∀ j, k ≤ j → j < out.length → x.1 < (out.getD j (0, 0)).1) → (∀ j, j + 1 = k → ¬ x.1 < (out.getD j (0, 0)).1) → insL x out = out.take k ++ x :: out.drop k
  | [], k, _, hk, _, _ => by
    have : k = 0 := by simpa using hk
    subst this
    rfl
  | y :: o, 0, _, _, h, _ => by
    have := h 0 (by omega) (by simp)
    unfold insL
    rw [if_pos (by simpa using this)]
    rfl
  | y :: o, k + 1, hu, hk, h, h2 => by
    have h1 := List.pairwise_cons.1 hu
    have hk' : k ≤ o.length := by simpa using hk
    have hx : ¬ x.1 < y.1 := by
      have h3 := h2 k rfl
      cases k with
      | zero => simpa using h3
      | succ j =>
        have hj : j < o.length := by omega
        have h4 : ((y :: o).getD (j + 1) (0, 0)) = o[j] := by simp [List.getD, hj]
        rw [h4] at h3
        have := h1.1 o[j] (List.getElem_mem hj)
        omega
    unfold insL
    rw [if_neg hx, insL_at x o k h1.2 hk' (fun j hj hl => by simpa using h (j + 1) (by omega) (by simpa using hl)) (fun j hj => by
      have := h2 (j + 1) (by omega)
      simpa using this)]
    rfl

theorem insL_end (x : It) : ∀ (out : List It), (∀ y ∈ out, ¬ x.1 < y.1) → insL x out = out ++ [x]
  | [], _ => rfl
  | y :: o, h => by
    unfold insL
    rw [if_neg (h y (by simp)), insL_end x o fun z hz => h z (by simp [hz])]
    rfl

theorem foldl_sorted : ∀ (l out : List It), Up (out ++ l) → l.foldl (fun out x => insL x out) out = out ++ l
  | [], out, _ => by simp
  | x :: l, out, h => by
    rw [List.foldl_cons, insL_end x out fun y hy => by
      have := (List.pairwise_append.1 h).2.2 y hy x (by simp)
      omega]
    rw [foldl_sorted l (out ++ [x]) (by simpa using h)]
    simp

theorem isort_sorted {l : List It} (h : Up l) : isort l = l := foldl_sorted l [] (by simpa using h)

theorem mg_head {x : It} {a b : List It} (h : ∀ z ∈ b, ¬ z.1 < x.1) : mg (x :: a) b = x :: mg a b := by
  cases b with
  | nil => rw [mg_nil, mg_nil]
  | cons z b => rw [mg, if_neg (h z (by simp))]

theorem mg_ins (x : It) : ∀ (a b : List It), (∀ z ∈ b, x.1 ≤ z.1) → mg (insL x a) b = mg a (x :: b)
  | [], b, h => by
    show mg [x] b = mg [] (x :: b)
    rw [mg_head (fun z hz => by have := h z hz; omega)]
    simp [mg]
  | y :: a, b, h => by
    unfold insL
    split
    · rename_i hx
      rw [mg_head (fun z hz => by have := h z hz; omega), mg.eq_def (y :: a) (x :: b)]
      simp only
      rw [if_pos hx]
    · rename_i hx
      rw [mg_head (fun z hz => by have := h z hz; omega), mg_ins x a b h, mg.eq_def (y :: a) (x :: b)]
      simp only
      rw [if_neg hx]

theorem foldl_mg : ∀ (b a : List It), Up b → b.foldl (fun out x => insL x out) a = mg a b
  | [], a, _ => (mg_nil a).symm
  | x :: b, a, h => by
    have h1 := List.pairwise_cons.1 h
    rw [List.foldl_cons, foldl_mg b _ h1.2, mg_ins x a b h1.1]

theorem mg_isort {a b : List It} (ha : Up a) (hb : Up b) : mg a b = isort (a ++ b) := by
  unfold isort
  rw [List.foldl_append]
  show _ = b.foldl _ (isort a)
  rw [isort_sorted ha, foldl_mg b a hb]

/-- A place is made, and filled. -/
theorem shift {out : List It} {d x : It} {k n : Nat} (hn : n = out.length) (hk : k ≤ n) :
    (List.take (k + 1) (out ++ [d]) ++ List.take (n + 1 - (k + 1)) (List.take (n + 1 - k) (List.drop k (out ++ [d]))) ++ List.drop (k + 1 + min (List.take (n + 1 - k) (List.drop k (out ++ [d]))).length (n + 1 - (k + 1))) (out ++ [d])).set k x = out.take k ++ x :: out.drop k := by
  subst hn
  have e1 : List.drop k (out ++ [d]) = out.drop k ++ [d] := List.drop_append_of_le_length hk
  have e2 : List.take (out.length + 1 - k) (out.drop k ++ [d]) = out.drop k ++ [d] := List.take_of_length_le (by simp; omega)
  have e3 : List.take (out.length + 1 - (k + 1)) (out.drop k ++ [d]) = out.drop k := by
    rw [List.take_append_of_le_length (by simp), List.take_of_length_le (by simp)]
  have e4 : List.take (k + 1) (out ++ [d]) = out.take k ++ [(out ++ [d]).getD k d] := by
    rw [← take_snoc (d := d) (by simp; omega), List.take_append_of_le_length hk]
  have e5 : List.drop (k + 1 + min (out.drop k ++ [d]).length (out.length + 1 - (k + 1))) (out ++ [d]) = [] := List.drop_of_length_le (by simp; omega)
  rw [e1, e2, e3, e4, e5, List.append_nil, List.append_assoc, List.set_append_right _ _ (by simp; omega)]
  simp [Nat.min_eq_left hk]
end Go.Proofs.Rf
/- What the functions of merges come to. -/
namespace Go.Proofs.Rf
open Go Classical

theorem Lg24_6_val {l out : List It} {i : Nat} (hi : i < l.length) (_hl : l.length ≤ 1000) (ho : out.length ≤ 1000) :
    ∃ k : Nat, k ≤ out.length ∧ Lg24_6 ((l, (), (i : Int), (out.length : Int), ()), (out, ())) = some ((l, (), (i : Int), (k : Int), ()), (out, ())) ∧
      (∀ j, k ≤ j → j < out.length → (l.getD i (0, 0)).1 < (out.getD j (0, 0)).1) ∧ (∀ j, j + 1 = k → ¬ (l.getD i (0, 0)).1 < (out.getD j (0, 0)).1) := by
  obtain ⟨z, h1, k, h2, h3, h4, h5⟩ := limL_ind (f := S24_6) (fun x => x.1.2.2.2.1.toNat) (fun x => ∃ k : Nat, k ≤ out.length ∧ (∀ j, k ≤ j → j < out.length → (l.getD i (0, 0)).1 < (out.getD j (0, 0)).1) ∧ x = ((l, (), (i : Int), (k : Int), ()), (out, ())))
      (fun z => ∃ k : Nat, k ≤ out.length ∧ z = ((l, (), (i : Int), (k : Int), ()), (out, ())) ∧ (∀ j, k ≤ j → j < out.length → (l.getD i (0, 0)).1 < (out.getD j (0, 0)).1) ∧ (∀ j, j + 1 = k → ¬ (l.getD i (0, 0)).1 < (out.getD j (0, 0)).1)) (by
    rintro x ⟨k, hk, hs, rfl⟩
    rw [S24_6_eq]
    cases k with
    | zero => exact .inr ⟨_, if_neg (by simp), 0, by omega, rfl, hs, fun j hj => by omega⟩
    | succ j =>
      have e1 : ((j + 1 : Nat) : Int) - 1 = (j : Int) := by omega
      rw [if_pos (decide_eq_true (by omega)), wi (n := ((j + 1 : Nat) : Int) - 1) (by omega) (by omega), e1, if_pos (by omega), if_pos (by omega), if_pos (by omega), if_pos (by omega), Int.toNat_natCast, Int.toNat_natCast]
      by_cases hlt : (l.getD i (0, 0)).1 < (out.getD j (0, 0)).1
      · refine .inl ⟨((l, (), (i : Int), (j : Int), ()), (out, ())), if_pos (decide_eq_true hlt), ⟨j, by omega, fun m hm hm2 => ?_, rfl⟩, ?_⟩
        · by_cases q : m = j
          · subst q; exact hlt
          · exact hs m (by omega) hm2
        · show (j : Int).toNat < ((j + 1 : Nat) : Int).toNat
          omega
      · refine .inr ⟨_, if_neg (by simpa using hlt), j + 1, hk, rfl, hs, fun m hm => ?_⟩
        have : m = j := by omega
        subst this
        exact hlt) ((l, (), (i : Int), (out.length : Int), ()), (out, ())) ⟨out.length, by omega, fun j h1 h2 => by omega, rfl⟩
  refine ⟨k, h2, ?_, h4, h5⟩
  show limL S24_6 _ = _
  rw [h1, h3]

theorem L24_val (l : List It) (hl : l.length ≤ 900) : L24 (l, ()) = some ((isort l, ()), ()) := by
  obtain ⟨z, h1, h2⟩ := limL_ind (f := S24_3 Lg24_6) (fun x => l.length - x.1.2.2.1.toNat) (fun x => ∃ k : Nat, k ≤ l.length ∧ x = ((l, (), (k : Int), ()), (isort (l.take k), ()))) (fun z => z.2.1 = isort l) (by
    rintro x ⟨i, hk, rfl⟩
    rw [S24_3_eq]
    by_cases h : i < l.length
    · left
      have hlen : (isort (l.take i)).length = i := by rw [isort_length, List.length_take]; omega
      have hup := isort_up (l.take i)
      have hsn : isort (l.take (i + 1)) = insL (l.getD i (0, 0)) (isort (l.take i)) := by rw [← isort_snoc, take_snoc h]
      generalize isort (l.take i) = out at *
      obtain ⟨k, k1, k2, k3, k4⟩ := Lg24_6_val (out := out) h (by omega) (by omega)
      refine ⟨((l, (), ((i + 1 : Nat) : Int), ()), (isort (l.take (i + 1)), ())), ?_, ⟨i + 1, by omega, rfl⟩, ?_⟩
      · rw [if_pos (decide_eq_true (by omega)), k2, Option.bind_some]
        have e0 : (out ++ [((0, 0) : It)]).length = i + 1 := by simp [hlen]
        have e1 : IntKind.i64.wrap ((k : Int) + 1) = ((k + 1 : Nat) : Int) := wi (by omega) (by omega)
        have sh := shift (out := out) (d := (0, 0)) (x := l.getD i (0, 0)) (k := k) (n := i) hlen.symm (by omega)
        have hat := insL_at (l.getD i (0, 0)) out k hup k1 k3 k4
        dsimp only
        have c1 : (0 : Int) ≤ (k : Int) := by omega
        have c2 : (k : Int) ≤ ((out ++ [((0, 0) : It)]).length : Int) := by omega
        have c3 : (0 : Int) ≤ (i : Int) := by omega
        have c4 : (i : Int) < (l.length : Int) := by omega
        rw [e1, if_pos (by omega), if_pos (by omega), if_pos (by omega), if_pos (by omega), if_pos c1, if_pos c2, if_pos (by omega), if_pos c3, if_pos c4, if_pos c1]
        have hL := congrArg List.length sh
        rw [List.length_set] at hL
        simp only [Int.toNat_natCast, e0]
        have c5 : (k : Int) < ((List.take (k + 1) (out ++ [((0, 0) : It)]) ++ List.take (i + 1 - (k + 1)) (List.take (i + 1 - k) (List.drop k (out ++ [(0, 0)]))) ++ List.drop (k + 1 + min (List.take (i + 1 - k) (List.drop k (out ++ [(0, 0)]))).length (i + 1 - (k + 1))) (out ++ [(0, 0)])).length : Int) := by
          rw [hL]
          simp
          omega
        rw [if_pos c5, wi (n := (i : Int) + 1) (by omega) (by omega)]
        have sh' : (List.take (k + 1) (out ++ [((0, 0) : It)]) ++ List.take (i + 1 - (k + 1)) (List.take (i + 1 - k) (List.drop k (out ++ [(0, 0)]))) ++ List.drop (k + 1 + min (List.take (i + 1 - k) (List.drop k (out ++ [(0, 0)]))).length (i + 1 - (k + 1))) (out ++ [(0, 0)])).set k ((l.getD i (0, 0)).1, (l.getD i (0, 0)).2) = isort (l.take (i + 1)) := by
          rw [hsn, hat]
          exact sh
        rw [sh']
        rfl
      · show l.length - ((i + 1 : Nat) : Int).toNat < l.length - (i : Int).toNat
        omega
    · right
      refine ⟨_, if_neg (by simp; omega), ?_⟩
      show isort (l.take i) = isort l
      rw [List.take_of_length_le (by omega)]) ((l, (), 0, ()), ([], ())) ⟨0, by omega, rfl⟩
  show F24 Lg24_3 (l, ()) = _
  rw [F24_eq]
  show (limL (S24_3 Lg24_6) _).bind _ = _
  rw [h1]
  simp only [Option.bind_some]
  rw [h2]

theorem L52_val (a b : List It) (ha : a.length ≤ 900) (hb : b.length ≤ 900) : L52 (a, b, (), ()) = some ((mg a b, ()), ()) := by
  obtain ⟨z, h1, h2, h3, h4⟩ := limL_ind (f := S52_2 L53) (fun x => x.1.1.length + x.1.2.1.length) (fun x => ∃ a' b' r : List It, r ++ mg a' b' = mg a b ∧ r.length + a'.length + b'.length = a.length + b.length ∧ x = ((a', b', (), (), ()), (r, ())))
      (fun z => z.2.1 ++ z.1.1 ++ z.1.2.1 = mg a b ∧ z.2.1.length + z.1.1.length + z.1.2.1.length = a.length + b.length ∧ True) (by
    rintro x ⟨a', b', r, hm, hn, rfl⟩
    rw [S52_2_eq]
    cases a' with
    | nil => exact .inr ⟨_, if_neg (by simp), by simpa [mg] using hm, by simpa using hn, trivial⟩
    | cons y a' =>
      rw [if_pos (by first | (simp; done) | (simp; omega))]
      cases b' with
      | nil => exact .inr ⟨_, if_neg (by simp), by simpa [mg] using hm, by simpa using hn, trivial⟩
      | cons x b' =>
        rw [if_pos (by first | (simp; done) | (simp; omega)), if_pos (by first | (simp; done) | (simp; omega)), if_pos (by first | (simp; done) | (simp; omega))]
        have hv := L53_val (((x :: b').getD 0 (0, 0)).1, ((x :: b').getD 0 (0, 0)).2) (((y :: a').getD 0 (0, 0)).1, ((y :: a').getD 0 (0, 0)).2)
        rw [hv, Option.bind_some]
        simp only [List.length_cons] at hn
        by_cases hlt : x.1 < y.1
        · refine .inl ⟨((y :: a', b', (), (), ()), (r ++ [x], ())), ?_, ⟨y :: a', b', r ++ [x], ?_, by simp; omega, rfl⟩, ?_⟩
          · rw [if_pos (by simpa using hlt), if_pos (by first | (simp; done) | (simp; omega)), if_pos (by first | (simp; done) | (simp; omega)), if_pos (by first | (simp; done) | (simp; omega)), if_pos (by omega)]
            rfl
          · rw [← hm, mg.eq_def (y :: a') (x :: b')]
            simp only
            rw [if_pos hlt]
            simp
          · show (y :: a').length + b'.length < (y :: a').length + (x :: b').length
            simp
        · refine .inl ⟨((a', x :: b', (), (), ()), (r ++ [y], ())), ?_, ⟨a', x :: b', r ++ [y], ?_, by simp; omega, rfl⟩, ?_⟩
          · rw [if_neg (by simpa using hlt), if_pos (by first | (simp; done) | (simp; omega)), if_pos (by first | (simp; done) | (simp; omega)), if_pos (by first | (simp; done) | (simp; omega)), if_pos (by omega)]
            rfl
          · rw [← hm, mg.eq_def (y :: a') (x :: b')]
            simp only
            rw [if_neg hlt]
            simp
          · show a'.length + (x :: b').length < (y :: a').length + (x :: b').length
            simp) ((a, b, (), (), ()), ([], ())) ⟨a, b, [], rfl, by simp, rfl⟩
  show F52 Lg52_2 (a, b, (), ()) = _
  rw [F52_eq]
  have e1 : IntKind.i64.wrap ((a.length : Int) + (b.length : Int)) = (a.length : Int) + b.length := wi (by omega) (by omega)
  rw [e1, if_pos (by omega), if_pos (by omega)]
  show (limL (S52_2 L53) _).bind _ = _
  rw [h1]
  simp only [Option.bind_some]
  rw [if_pos (by omega), if_pos (by rw [List.length_append]; omega), h2]

end Go.Proofs.Rf
/- Heaps in lists: sinking and rising. -/
namespace Go.Proofs.Rf
section
variable {A : Type} (w : A → Int) (d : A)

def swp (l : List A) (i j : Nat) : List A := (l.set i (l.getD j d)).set j (l.getD i d)

theorem swp_length (l : List A) (i j : Nat) : (swp d l i j).length = l.length := by simp [swp]

theorem swp_getD (l : List A) {i j : Nat} (hi : i < l.length) (hj : j < l.length) (k : Nat) :
    (swp d l i j).getD k d = if k = j then l.getD i d else if k = i then l.getD j d else l.getD k d := by
  unfold swp
  simp only [List.getD_eq_getElem?_getD, List.getElem?_set, List.length_set]
  by_cases h1 : k = j
  · subst h1; simp [hj]
  · rw [if_neg (fun h => h1 h.symm), if_neg h1]
    by_cases h2 : k = i
    · subst h2; simp [hi]
    · rw [if_neg (fun h => h2 h.symm), if_neg h2]

theorem swp_perm (l : List A) {i j : Nat} (hi : i < l.length) (hj : j < l.length) : (swp d l i j).Perm l := by
  have h := List.set_set_perm hi hj
  have e1 : l.getD j d = l[j] := by simp [List.getD, hj]
  have e2 : l.getD i d = l[i] := by simp [List.getD, hi]
  unfold swp
  rw [e1, e2]
  exact h

def gw (l : List A) (i : Nat) : Int := w (l.getD i d)

theorem swp_gw (l : List A) {i j : Nat} (hi : i < l.length) (hj : j < l.length) (k : Nat) :
    gw w d (swp d l i j) k = if k = j then gw w d l i else if k = i then gw w d l j else gw w d l k := by
  unfold gw
  rw [swp_getD d l hi hj]
  split
  · rfl
  · split <;> rfl

/-- All edges among the first n places whose upper end is at s or beyond. -/
def Hp (l : List A) (n s : Nat) : Prop := ∀ i, 0 < i → i < n → s ≤ (i - 1) / 2 → gw w d l ((i - 1) / 2) ≤ gw w d l i

/-- All edges but those down from `a`. -/
def Dn (l : List A) (n s a : Nat) : Prop :=
  (∀ i, 0 < i → i < n → s ≤ (i - 1) / 2 → (i - 1) / 2 ≠ a → gw w d l ((i - 1) / 2) ≤ gw w d l i) ∧
  (0 < a → s ≤ (a - 1) / 2 → ∀ i, 0 < i → i < n → (i - 1) / 2 = a → gw w d l ((a - 1) / 2) ≤ gw w d l i)

/-- All edges but that up from `a`. -/
def Us (l : List A) (n a : Nat) : Prop :=
  (∀ i, 0 < i → i < n → i ≠ a → gw w d l ((i - 1) / 2) ≤ gw w d l i) ∧
  (0 < a → ∀ i, 0 < i → i < n → (i - 1) / 2 = a → gw w d l ((a - 1) / 2) ≤ gw w d l i)

theorem Dn.done {l : List A} {n s a : Nat} (h : Dn w d l n s a) (hk : ∀ i, 0 < i → i < n → (i - 1) / 2 = a → gw w d l a ≤ gw w d l i) : Hp w d l n s := by
  intro i h0 hn hs
  by_cases e : (i - 1) / 2 = a
  · rw [e]; exact hk i h0 hn e
  · exact h.1 i h0 hn hs e

theorem Dn.step {l : List A} {n s a t : Nat} (hl : n ≤ l.length) (h : Dn w d l n s a) (hsa : s ≤ a) (ht0 : 0 < t) (htn : t < n) (hta : (t - 1) / 2 = a)
    (hlt : gw w d l t < gw w d l a) (hk : ∀ i, 0 < i → i < n → (i - 1) / 2 = a → gw w d l t ≤ gw w d l i) : Dn w d (swp d l a t) n s t := by
  have hat : a < t := by omega
  have e := swp_gw w d l (i := a) (j := t) (by omega) (by omega)
  refine ⟨fun i h0 hn hs hp => ?_, fun _ hs i h0 hn hi => ?_⟩
  · by_cases h1 : i = t
    · subst h1
      rw [hta, e a, e i, if_neg (by omega), if_pos rfl, if_pos rfl]
      omega
    · by_cases h2 : (i - 1) / 2 = a
      · rw [h2, e a, e i, if_neg (by omega), if_pos rfl, if_neg h1, if_neg (by omega)]
        exact hk i h0 hn h2
      · by_cases h3 : i = a
        · subst h3
          rw [e _, e i, if_neg hp, if_neg h2, if_neg (by omega), if_pos rfl]
          exact h.2 h0 hs t ht0 htn hta
        · rw [e _, e i, if_neg hp, if_neg h2, if_neg h1, if_neg h3]
          exact h.1 i h0 hn hs h2
  · rw [hta, e a, e i, if_neg (by omega), if_pos rfl, if_neg (by omega), if_neg (by omega)]
    have := h.1 i h0 hn (by omega) (by omega)
    rw [hi] at this
    exact this

theorem Us.done {l : List A} {n a : Nat} (h : Us w d l n a) (hk : a = 0 ∨ gw w d l ((a - 1) / 2) ≤ gw w d l a) : Hp w d l n 0 := by
  intro i h0 hn _
  by_cases e : i = a
  · subst e
    rcases hk with hk | hk
    · omega
    · exact hk
  · exact h.1 i h0 hn e

theorem Us.step {l : List A} {n a : Nat} (hl : n ≤ l.length) (h : Us w d l n a) (ha0 : 0 < a) (han : a < n) (hlt : gw w d l a < gw w d l ((a - 1) / 2)) : Us w d (swp d l a ((a - 1) / 2)) n ((a - 1) / 2) := by
  have hpa : (a - 1) / 2 < a := by omega
  have e := swp_gw w d l (i := a) (j := (a - 1) / 2) (by omega) (by omega)
  generalize hp : (a - 1) / 2 = p at *
  refine ⟨fun i h0 hn hip => ?_, fun hp0 i h0 hn hi => ?_⟩
  · rw [e _, e i, if_neg hip]
    by_cases h1 : i = a
    · subst h1
      rw [hp, if_pos rfl, if_pos rfl]
      omega
    · rw [if_neg h1]
      have h4 := h.1 i h0 hn h1
      by_cases h2 : (i - 1) / 2 = p
      · rw [if_pos h2]
        rw [h2] at h4
        omega
      · rw [if_neg h2]
        by_cases h3 : (i - 1) / 2 = a
        · rw [if_pos h3]
          have h5 := h.2 ha0 i h0 hn h3
          rw [hp] at h5
          exact h5
        · rw [if_neg h3]; exact h4
  · rw [e _, e i, if_neg (by omega), if_neg (by omega), if_neg (by omega)]
    have h4 := h.1 p hp0 (by omega) (by omega)
    by_cases h1 : i = a
    · subst h1
      rw [if_pos rfl]; exact h4
    · rw [if_neg h1]
      have h5 := h.1 i h0 hn h1
      rw [hi] at h5
      omega

theorem Hp.root {l : List A} {n : Nat} (h : Hp w d l n 0) : ∀ i, i < n → gw w d l 0 ≤ gw w d l i := by
  intro i
  induction i using Nat.strongRecOn with
  | _ i ih =>
    intro hi
    by_cases h0 : i = 0
    · subst h0; omega
    · have h1 := h i (by omega) hi (Nat.zero_le _)
      have h2 := ih ((i - 1) / 2) (by omega) (by omega)
      omega

/-- The kid that is to go up, or the place itself. -/
def top2 (l : List A) (n a : Nat) : Nat :=
  let t := if 2 * a + 1 < n ∧ gw w d l (2 * a + 1) < gw w d l a then 2 * a + 1 else a
  if 2 * a + 2 < n ∧ gw w d l (2 * a + 2) < gw w d l t then 2 * a + 2 else t

theorem top2_cases (l : List A) (n a : Nat) :
    (top2 w d l n a = a ∧ ∀ i, 0 < i → i < n → (i - 1) / 2 = a → gw w d l a ≤ gw w d l i) ∨
    (0 < top2 w d l n a ∧ top2 w d l n a < n ∧ (top2 w d l n a - 1) / 2 = a ∧ gw w d l (top2 w d l n a) < gw w d l a ∧ ∀ i, 0 < i → i < n → (i - 1) / 2 = a → gw w d l (top2 w d l n a) ≤ gw w d l i) := by
  have hk : ∀ i, 0 < i → (i - 1) / 2 = a → i = 2 * a + 1 ∨ i = 2 * a + 2 := fun i h0 h => by omega
  unfold top2
  by_cases h1 : 2 * a + 1 < n ∧ gw w d l (2 * a + 1) < gw w d l a
  · simp only [if_pos h1]
    by_cases h2 : 2 * a + 2 < n ∧ gw w d l (2 * a + 2) < gw w d l (2 * a + 1)
    · simp only [if_pos h2]
      refine .inr ⟨by omega, h2.1, by omega, by omega, fun i h0 hn hi => ?_⟩
      rcases hk i h0 hi with rfl | rfl <;> omega
    · simp only [if_neg h2]
      refine .inr ⟨by omega, h1.1, by omega, by omega, fun i h0 hn hi => ?_⟩
      rcases hk i h0 hi with rfl | rfl
      · omega
      · have : ¬ gw w d l (2 * a + 2) < gw w d l (2 * a + 1) := fun h => h2 ⟨hn, h⟩
        omega
  · simp only [if_neg h1]
    by_cases h2 : 2 * a + 2 < n ∧ gw w d l (2 * a + 2) < gw w d l a
    · simp only [if_pos h2]
      refine .inr ⟨by omega, h2.1, by omega, by omega, fun i h0 hn hi => ?_⟩
      rcases hk i h0 hi with rfl | rfl
      · have : ¬ gw w d l (2 * a + 1) < gw w d l a := fun h => h1 ⟨by omega, h⟩
        omega
      · omega
    · simp only [if_neg h2]
      refine .inl ⟨trivial, fun i h0 hn hi => ?_⟩
      rcases hk i h0 hi with rfl | rfl
      · have : ¬ gw w d l (2 * a + 1) < gw w d l a := fun h => h1 ⟨hn, h⟩
        omega
      · have : ¬ gw w d l (2 * a + 2) < gw w d l a := fun h => h2 ⟨hn, h⟩
        omega
end
end Go.Proofs.Rf
/- Sinking in heaps of items. -/
namespace Go.Proofs.Rf
open Go

def wI (x : It) : Int := - x.1
abbrev dI : It := (0, 0)

theorem gwI {l : List It} {i j : Nat} : gw wI dI l i < gw wI dI l j ↔ (l.getD j dI).1 < (l.getD i dI).1 := by
  unfold gw wI
  omega
theorem gwI_le {l : List It} {i j : Nat} : gw wI dI l i ≤ gw wI dI l j ↔ (l.getD j dI).1 ≤ (l.getD i dI).1 := by
  unfold gw wI
  omega

theorem S55r_2_step (l : List It) (a top k : Nat) (hk : k < 2) (ht : top < 2 * a + 1 + k) (ha : a < 20000) :
    S55r_2 L53 (((), (a : Int), (top : Int), (k : Int), ()), (l, ())) =
      some (.inl (((), (a : Int), ((if 2 * a + 1 + k < l.length ∧ gw wI dI l (2 * a + 1 + k) < gw wI dI l top then 2 * a + 1 + k else top : Nat) : Int), ((k + 1 : Nat) : Int), ()), (l, ()))) := by
  refine (S55r_2_eq L53 _ _ _ _).trans ?_
  have e1 : IntKind.i64.wrap (IntKind.i64.wrap (IntKind.i64.wrap (2 * (a : Int)) + 1) + (k : Int)) = ((2 * a + 1 + k : Nat) : Int) := by
    rw [wi (n := 2 * (a : Int)) (by omega) (by omega), wi (n := 2 * (a : Int) + 1) (by omega) (by omega), wi (by omega) (by omega)]
    omega
  have e2 : IntKind.i64.wrap ((k : Int) + 1) = ((k + 1 : Nat) : Int) := wi (by omega) (by omega)
  rw [if_pos (by simp; omega)]
  simp only [e1, e2, Int.toNat_natCast]
  generalize 2 * a + 1 + k = kid at *
  by_cases h : kid < l.length
  · rw [if_pos (by simp; omega), if_pos (by omega), if_pos (by omega), if_pos (by omega), if_pos (by omega)]
    rw [L53_val, Option.bind_some]
    by_cases hw : (l.getD top dI).1 < (l.getD kid dI).1
    · refine (if_pos (decide_eq_true hw)).trans ?_
      rw [if_pos ⟨h, gwI.2 hw⟩]
    · refine (if_neg (by simpa using hw)).trans ?_
      rw [if_neg (fun q => hw (gwI.1 q.2))]
  · rw [if_neg (by simp; omega), if_neg (fun q => h q.1)]

theorem Lg55r_2_val (l : List It) (a : Nat) (ha : a < 20000) :
    Lg55r_2 (((), (a : Int), (a : Int), 0, ()), (l, ())) = some (((), (a : Int), (top2 wI dI l l.length a : Int), ()), (l, ())) := by
  show limL (S55r_2 L53) _ = _
  have s0 := S55r_2_step l a a 0 (by omega) (by omega) ha
  have ht : (if 2 * a + 1 + 0 < l.length ∧ gw wI dI l (2 * a + 1 + 0) < gw wI dI l a then 2 * a + 1 + 0 else a) < 2 * a + 1 + 1 := by split <;> omega
  have s1 := S55r_2_step l a _ 1 (by omega) ht ha
  have s2 : ∀ t : Int, S55r_2 L53 (((), (a : Int), t, ((1 + 1 : Nat) : Int), ()), (l, ())) = some (.inr (((), (a : Int), t, ()), (l, ()))) := fun t =>
    (S55r_2_eq L53 _ _ _ _).trans (if_neg (by decide))
  rw [limL_eq]
  rw [show S55r_2 L53 (((), (a : Int), (a : Int), 0, ()), (l, ())) = _ from s0]
  simp only
  rw [limL_eq, s1]
  simp only
  rw [limL_eq, s2]
  rfl

theorem S55r_0_val (l : List It) (a : Nat) (ha : a < 20000) (hl : l.length ≤ 10000) :
    S55r_0 Lg55r_2 (((), (a : Int), ()), (l, ())) =
      if top2 wI dI l l.length a = a then some (.inr (((), ()), (l, ())))
      else some (.inl (((), (top2 wI dI l l.length a : Int), ()), (swp dI l a (top2 wI dI l l.length a), ()))) := by
  refine (S55r_0_eq Lg55r_2 _ _).trans ?_
  rw [Lg55r_2_val l a ha, Option.bind_some]
  rcases top2_cases wI dI l l.length a with ⟨h1, _⟩ | ⟨h1, h2, h3, _⟩
  · rw [if_pos h1]
    simp only [h1]
    rw [if_pos (by simp)]
  · generalize top2 wI dI l l.length a = t at *
    rw [if_neg (by omega : ¬ t = a)]
    simp only
    have c1' : ¬ ((t : Int) == (a : Int)) = true := by simp; omega
    have c2 : (0 : Int) ≤ (t : Int) := by omega
    have c3 : (t : Int) < (l.length : Int) := by omega
    have c4 : (0 : Int) ≤ (a : Int) := by omega
    have c5 : (a : Int) < (l.length : Int) := by omega
    simp only [List.length_set, if_neg c1', if_pos c2, if_pos c3, if_pos c4, if_pos c5, Int.toNat_natCast]
    rfl

theorem S55s_2_step {n : Nat} (l : List It) (a top k : Nat) (hk : k < 2) (ht : top < 2 * a + 1 + k) (ha : a < 20000) (_hn : n ≤ l.length) :
    S55s_2 L53 ((n, (a : Int), (top : Int), (k : Int), ()), (l, ())) =
      some (.inl ((n, (a : Int), ((if 2 * a + 1 + k < n ∧ gw wI dI l (2 * a + 1 + k) < gw wI dI l top then 2 * a + 1 + k else top : Nat) : Int), ((k + 1 : Nat) : Int), ()), (l, ()))) := by
  refine (S55s_2_eq L53 _ _ _ _ _).trans ?_
  have e1 : IntKind.i64.wrap (IntKind.i64.wrap (IntKind.i64.wrap (2 * (a : Int)) + 1) + (k : Int)) = ((2 * a + 1 + k : Nat) : Int) := by
    rw [wi (n := 2 * (a : Int)) (by omega) (by omega), wi (n := 2 * (a : Int) + 1) (by omega) (by omega), wi (by omega) (by omega)]
    omega
  have e2 : IntKind.i64.wrap ((k : Int) + 1) = ((k + 1 : Nat) : Int) := wi (by omega) (by omega)
  rw [if_pos (by simp; omega)]
  simp only [e1, e2, Int.toNat_natCast, Nat.zero_add]
  generalize 2 * a + 1 + k = kid at *
  by_cases h : kid < n
  · rw [if_pos (by simp; omega), if_pos (by omega), if_pos (by omega), if_pos (by omega), if_pos (by omega)]
    rw [L53_val, Option.bind_some]
    by_cases hw : (l.getD top dI).1 < (l.getD kid dI).1
    · refine (if_pos (decide_eq_true hw)).trans ?_
      rw [if_pos ⟨h, gwI.2 hw⟩]
    · refine (if_neg (by simpa using hw)).trans ?_
      rw [if_neg (fun q => hw (gwI.1 q.2))]
  · rw [if_neg (by simp; omega), if_neg (fun q => h q.1)]

theorem Lg55s_2_val {n : Nat} (l : List It) (a : Nat) (ha : a < 20000) (hn : n ≤ l.length) :
    Lg55s_2 ((n, (a : Int), (a : Int), 0, ()), (l, ())) = some ((n, (a : Int), (top2 wI dI l n a : Int), ()), (l, ())) := by
  show limL (S55s_2 L53) _ = _
  have s0 := S55s_2_step l a a 0 (by omega) (by omega) ha hn
  have ht : (if 2 * a + 1 + 0 < n ∧ gw wI dI l (2 * a + 1 + 0) < gw wI dI l a then 2 * a + 1 + 0 else a) < 2 * a + 1 + 1 := by split <;> omega
  have s1 := S55s_2_step l a _ 1 (by omega) ht ha hn
  have s2 : ∀ t : Int, S55s_2 L53 ((n, (a : Int), t, ((1 + 1 : Nat) : Int), ()), (l, ())) = some (.inr ((n, (a : Int), t, ()), (l, ()))) := fun t =>
    (S55s_2_eq L53 _ _ _ _ _).trans (if_neg (by decide))
  rw [limL_eq]
  rw [show S55s_2 L53 ((n, (a : Int), (a : Int), 0, ()), (l, ())) = _ from s0]
  simp only
  rw [limL_eq, s1]
  simp only
  rw [limL_eq, s2]
  rfl

theorem S55s_0_val {n : Nat} (l : List It) (a : Nat) (ha : a < 20000) (hl : l.length ≤ 10000) (hn : n ≤ l.length) :
    S55s_0 Lg55s_2 ((n, (a : Int), ()), (l, ())) =
      if top2 wI dI l n a = a then some (.inr ((n, ()), (l, ())))
      else some (.inl ((n, (top2 wI dI l n a : Int), ()), (swp dI l a (top2 wI dI l n a), ()))) := by
  refine (S55s_0_eq Lg55s_2 _ _ _).trans ?_
  rw [Lg55s_2_val l a ha hn, Option.bind_some]
  rcases top2_cases wI dI l n a with ⟨h1, _⟩ | ⟨h1, h2, h3, _⟩
  · rw [if_pos h1]
    simp only [h1]
    rw [if_pos (by simp)]
  · generalize top2 wI dI l n a = t at *
    rw [if_neg (by omega : ¬ t = a)]
    simp only
    have c1' : ¬ ((t : Int) == (a : Int)) = true := by simp; omega
    have c2 : (0 : Int) ≤ (t : Int) := by omega
    have c3 : (t : Int) < (n : Int) := by omega
    have c4 : (0 : Int) ≤ (a : Int) := by omega
    have c5 : (a : Int) < (n : Int) := by omega
    simp only [Nat.zero_add, if_neg c1', if_pos c2, if_pos c3, if_pos c4, if_pos c5, Int.toNat_natCast]
    rfl

/-- A place of the whole row is sunk. -/
theorem L55r_val (l : List It) (a s : Nat) (ha : a < l.length) (hl : l.length ≤ 10000) (hs : s ≤ a) (hd : Dn wI dI l l.length s a) :
    ∃ l', L55r (((), (a : Int), ()), (l, ())) = some (((), ()), (l', ())) ∧ l'.Perm l ∧ Hp wI dI l' l'.length s := by
  obtain ⟨z, h1, l', h2, h3, h4⟩ := limL_ind (f := S55r_0 Lg55r_2) (fun x => l.length - x.1.2.1.toNat)
    (fun x => ∃ (a : Nat) (l' : List It), x = (((), (a : Int), ()), (l', ())) ∧ l'.Perm l ∧ s ≤ a ∧ a < l.length ∧ Dn wI dI l' l'.length s a)
    (fun z => ∃ l', z = (((), ()), (l', ())) ∧ l'.Perm l ∧ Hp wI dI l' l'.length s) (by
    rintro x ⟨a, l', rfl, hp, hsa, hlt, hu⟩
    have hn := hp.length_eq
    have hst := S55r_0_val l' a (by omega) (by omega)
    rcases top2_cases wI dI l' l'.length a with ⟨h1, h2⟩ | ⟨h1, h2, h3, h4, h5⟩
    · rw [if_pos h1] at hst
      exact .inr ⟨_, hst, l', rfl, hp, hu.done _ _ h2⟩
    · rw [if_neg (by omega)] at hst
      refine .inl ⟨_, hst, ⟨_, _, rfl, (swp_perm dI l' (by omega) h2).trans hp, by omega, by omega, ?_⟩, ?_⟩
      · rw [swp_length]
        exact hu.step _ _ (Nat.le_refl _) hsa h1 h2 h3 h4 h5
      · show l.length - (top2 wI dI l' l'.length a : Int).toNat < l.length - (a : Int).toNat
        omega) (((), (a : Int), ()), (l, ())) ⟨a, l, rfl, List.Perm.refl _, hs, ha, hd⟩
  refine ⟨l', ?_, h3, h4⟩
  refine (F55r_eq Lg55r_0 a l).trans ?_
  rw [show Lg55r_0 (((), (a : Int), ()), (l, ())) = some (((), ()), (l', ())) from h1.trans (congrArg some h2)]
  rfl

/-- The first place is sunk, in the first part of a row. -/
theorem L55s_val (l : List It) (n : Nat) (hn : n ≤ l.length) (hl : l.length ≤ 10000) (hd : Dn wI dI l n 0 0) :
    ∃ l', L55s ((n, 0, ()), (l, ())) = some ((n, ()), (l', ())) ∧ l'.Perm l ∧ Hp wI dI l' n 0 ∧ (∀ i, n ≤ i → l'.getD i dI = l.getD i dI) ∧
      ∀ P : It → Prop, (∀ i, i < n → P (l.getD i dI)) → ∀ i, i < n → P (l'.getD i dI) := by
  obtain ⟨z, h1, l', h2, h3, h4, h5⟩ := limL_ind (f := S55s_0 Lg55s_2) (fun x => n - x.1.2.1.toNat)
    (fun x => ∃ (a : Nat) (l' : List It), x = ((n, (a : Int), ()), (l', ())) ∧ l'.Perm l ∧ (a = 0 ∨ a < n) ∧ Dn wI dI l' n 0 a ∧ (∀ i, n ≤ i → l'.getD i dI = l.getD i dI) ∧
      ∀ P : It → Prop, (∀ i, i < n → P (l.getD i dI)) → ∀ i, i < n → P (l'.getD i dI))
    (fun z => ∃ l', z = ((n, ()), (l', ())) ∧ l'.Perm l ∧ Hp wI dI l' n 0 ∧ (∀ i, n ≤ i → l'.getD i dI = l.getD i dI) ∧
      ∀ P : It → Prop, (∀ i, i < n → P (l.getD i dI)) → ∀ i, i < n → P (l'.getD i dI)) (by
    rintro x ⟨a, l', rfl, hp, hlt, hu, hk, hP⟩
    have hnl := hp.length_eq
    have hst := S55s_0_val (n := n) l' a (by omega) (by omega) (by omega)
    rcases top2_cases wI dI l' n a with ⟨h1, h2⟩ | ⟨h1, h2, h3, h4, h5⟩
    · rw [if_pos h1] at hst
      exact .inr ⟨_, hst, l', rfl, hp, hu.done _ _ h2, hk, hP⟩
    · rw [if_neg (by omega)] at hst
      generalize top2 wI dI l' n a = t at *
      have hg := swp_getD dI l' (i := a) (j := t) (by omega) (by omega)
      refine .inl ⟨_, hst, ⟨_, _, rfl, (swp_perm dI l' (by omega) (by omega)).trans hp, .inr h2, hu.step _ _ (by omega) (Nat.zero_le _) h1 h2 h3 h4 h5, fun i hi => ?_, fun P h i hi => ?_⟩, ?_⟩
      · rw [hg, if_neg (by omega), if_neg (by omega)]
        exact hk i hi
      · rw [hg]
        have := hP P h
        split
        · exact this a (by omega)
        · split
          · exact this t h2
          · exact this i hi
      · show n - (t : Int).toNat < n - (a : Int).toNat
        omega) ((n, ((0 : Nat) : Int), ()), (l, ())) ⟨0, l, rfl, List.Perm.refl _, .inl rfl, hd, fun _ _ => rfl, fun _ h => h⟩
  refine ⟨l', ?_, h3, h4, h5⟩
  refine (F55s_eq Lg55s_0 n 0 l).trans ?_
  rw [show Lg55s_0 ((n, 0, ()), (l, ())) = some ((n, ()), (l', ())) from h1.trans (congrArg some h2)]
  simp only [Option.bind_some]
  rw [if_pos (by simp [h3.length_eq])]
end Go.Proofs.Rf
/- Sorting in place: a heap. -/
namespace Go.Proofs.Rf
open Go

/-- Sorted, by places. -/
def Sd (l : List It) : Prop := ∀ i j, i < j → j < l.length → (l.getD i dI).1 ≤ (l.getD j dI).1

theorem Sd.up {l : List It} (h : Sd l) : Up l := by
  refine (List.pairwise_iff_getElem).2 fun i j hi hj hij => ?_
  have := h i j hij hj
  simpa [List.getD, hi, hj] using this

theorem Lg26_4_val (l : List It) (hl : l.length ≤ 10000) :
    ∃ l', Lg26_4 (((), ((l.length / 2 : Nat) : Int), 0, ()), (l, ())) = some (((), ()), (l', ())) ∧ l'.Perm l ∧ Hp wI dI l' l'.length 0 := by
  obtain ⟨z, h1, l', h2, h3, h4⟩ := limL_ind (f := S26_4 L55r L55s) (fun x => l.length - x.1.2.2.1.toNat)
    (fun x => ∃ (k : Nat) (l' : List It), k ≤ l.length / 2 ∧ x = (((), ((l.length / 2 : Nat) : Int), (k : Int), ()), (l', ())) ∧ l'.Perm l ∧ Hp wI dI l' l'.length (l.length / 2 - k))
    (fun z => ∃ l', z = (((), ()), (l', ())) ∧ l'.Perm l ∧ Hp wI dI l' l'.length 0) (by
    rintro x ⟨k, l', hk, rfl, hp, hh⟩
    have hn := hp.length_eq
    rw [show S26_4 L55r L55s _ = _ from S26_4_eq L55r L55s _ _ _]
    by_cases h : k < l.length / 2
    · rw [if_pos (by simp; omega)]
      have e1 : IntKind.i64.wrap (IntKind.i64.wrap (IntKind.i64.wrap ((l'.length : Int).tdiv 2) - 1) - (k : Int)) = ((l.length / 2 - (k + 1) : Nat) : Int) := by
        rw [Int.tdiv_eq_ediv_of_nonneg (by omega), hn, wi (n := (l.length : Int) / 2) (by omega) (by omega), wi (n := (l.length : Int) / 2 - 1) (by omega) (by omega), wi (by omega) (by omega)]
        omega
      obtain ⟨l2, k1, k2, k3⟩ := L55r_val l' (l.length / 2 - (k + 1)) (l.length / 2 - (k + 1)) (by omega) (by omega) (Nat.le_refl _)
        ⟨fun i h0 hi hs hne => hh i h0 hi (by omega), fun h0 hs => absurd hs (by omega)⟩
      rw [e1, k1, Option.bind_some, wi (n := (k : Int) + 1) (by omega) (by omega)]
      refine .inl ⟨_, rfl, ⟨k + 1, l2, by omega, rfl, k2.trans hp, k3⟩, ?_⟩
      show l.length - ((k : Int) + 1).toNat < l.length - (k : Int).toNat
      omega
    · rw [if_neg (by simp; omega)]
      refine .inr ⟨_, rfl, l', rfl, hp, ?_⟩
      rw [show l.length / 2 - k = 0 by omega] at hh
      exact hh) (((), ((l.length / 2 : Nat) : Int), ((0 : Nat) : Int), ()), (l, ())) ⟨0, l, by omega, rfl, List.Perm.refl _, fun i h0 hi hs => by omega⟩
  exact ⟨l', h1.trans (congrArg some h2), h3, h4⟩

theorem S26_9_step (l : List It) (n : Nat) (hn0 : 0 < n) (hn : n < l.length) (hl : l.length ≤ 10000) (hh : Hp wI dI l (n + 1) 0) (hs : ∀ i j, i < j → n < j → j < l.length → (l.getD i dI).1 ≤ (l.getD j dI).1) :
    ∃ l', S26_9 L55r L55s (((), (n : Int), ()), (l, ())) = some (.inl (((), ((n - 1 : Nat) : Int), ()), (l', ()))) ∧ l'.Perm l ∧ Hp wI dI l' (n - 1 + 1) 0 ∧ ∀ i j, i < j → n - 1 < j → j < l'.length → (l'.getD i dI).1 ≤ (l'.getD j dI).1 := by
  have hg := swp_getD dI l (i := 0) (j := n) (by omega) hn
  have hgw := swp_gw wI dI l (i := 0) (j := n) (by omega) hn
  have hroot : ∀ i, i ≤ n → (l.getD i dI).1 ≤ (l.getD 0 dI).1 := fun i hi => gwI_le.1 (hh.root _ _ i (by omega))
  obtain ⟨l', k1, k2, k3, k4, k5⟩ := L55s_val (swp dI l 0 n) n (by rw [swp_length]; omega) (by rw [swp_length]; omega)
    ⟨fun i h0 hi _ hne => by
      rw [hgw, hgw, if_neg (by omega), if_neg (by omega), if_neg (by omega), if_neg (by omega)]
      exact hh i h0 (by omega) (Nat.zero_le _), fun h => absurd h (by omega)⟩
  have hlen : l'.length = l.length := by rw [k2.length_eq, swp_length]
  refine ⟨l', ?_, k2.trans (swp_perm dI l (by omega) hn), by rw [show n - 1 + 1 = n by omega]; exact k3, fun i j hij hj hjl => ?_⟩
  · refine (S26_9_eq L55r L55s _ _).trans ?_
    have c1 : (0 : Int) ≤ (n : Int) := by omega
    have c2 : (n : Int) < (l.length : Int) := by omega
    have c3 : (0 : Int) < (l.length : Int) := by omega
    have c4 : (n : Int) ≤ (l.length : Int) := by omega
    rw [if_pos (by simp; omega)]
    simp only [List.length_set, if_pos c1, if_pos c2, if_pos c3, if_pos c4, Int.toNat_natCast, Nat.sub_zero]
    have k1' : L55s ((n, 0, ()), ((l.set 0 ((l.getD n (0, 0)).1, (l.getD n (0, 0)).2)).set n ((l.getD 0 (0, 0)).1, (l.getD 0 (0, 0)).2), ())) = _ := k1
    rw [k1', Option.bind_some, wi (by omega) (by omega), show (n : Int) - 1 = ((n - 1 : Nat) : Int) by omega]
  · rw [hlen] at hjl
    by_cases hjn : j = n
    · subst hjn
      rw [k4 j (Nat.le_refl _), hg, if_pos rfl]
      refine k5 (fun x => x.1 ≤ (l.getD 0 dI).1) (fun i hi => ?_) i hij
      rw [hg, if_neg (by omega)]
      split
      · exact hroot j (Nat.le_refl _)
      · exact hroot i (by omega)
    · have hj' : n < j := by omega
      rw [k4 j (by omega), hg, if_neg hjn, if_neg (by omega)]
      by_cases hi : i < n
      · refine k5 (fun x => x.1 ≤ (l.getD j dI).1) (fun i hi => ?_) i hi
        rw [hg, if_neg (by omega)]
        split
        · exact hs n j hj' hj' hjl
        · exact hs i j (by omega) hj' hjl
      · rw [k4 i (by omega), hg]
        split
        · exact hs 0 j (by omega) hj' hjl
        · rw [if_neg (by omega)]
          exact hs i j hij hj' hjl

theorem Lg26_9_val (l : List It) (hl : l.length ≤ 10000) (hh : Hp wI dI l l.length 0) :
    ∃ l', Lg26_9 (((), (l.length : Int) - 1, ()), (l, ())) = some (((), ()), (l', ())) ∧ l'.Perm l ∧ Sd l' := by
  obtain ⟨z, h1, l', h2, h3, h4⟩ := limL_ind (f := S26_9 L55r L55s) (fun x => x.1.2.1.toNat)
    (fun x => ∃ (n : Int) (l' : List It), x = (((), n, ()), (l', ())) ∧ l'.Perm l ∧ n < l.length ∧ Hp wI dI l' (n + 1).toNat 0 ∧ ∀ i j : Nat, i < j → n < (j : Int) → j < l.length → (l'.getD i dI).1 ≤ (l'.getD j dI).1)
    (fun z => ∃ l', z = (((), ()), (l', ())) ∧ l'.Perm l ∧ Sd l') (by
    rintro x ⟨n, l', rfl, hp, hlt, hu, hs⟩
    have hn := hp.length_eq
    by_cases h : 0 < n
    · obtain ⟨m, rfl⟩ : ∃ m : Nat, n = (m : Int) := ⟨n.toNat, by omega⟩
      rw [show ((m : Int) + 1).toNat = m + 1 by omega] at hu
      obtain ⟨l2, k1, k2, k3, k4⟩ := S26_9_step l' m (by omega) (by omega) (by omega) hu (fun i j h1 h2 h3 => hs i j h1 (by omega) (by omega))
      refine .inl ⟨_, k1, ⟨_, l2, rfl, k2.trans hp, by omega, by rw [show (((m - 1 : Nat) : Int) + 1).toNat = m - 1 + 1 by omega]; exact k3, fun i j h1 h2 h3 => k4 i j h1 (by omega) (by rw [k2.length_eq]; omega)⟩, ?_⟩
      show ((m - 1 : Nat) : Int).toNat < (m : Int).toNat
      omega
    · refine .inr ⟨_, (S26_9_eq L55r L55s n l').trans (if_neg (by simp; omega)), l', rfl, hp, fun i j h1 h2 => hs i j h1 (by omega) (by omega)⟩) (((), (l.length : Int) - 1, ()), (l, ()))
    ⟨_, l, rfl, List.Perm.refl _, by omega, by rw [show ((l.length : Int) - 1 + 1).toNat = l.length by omega]; exact hh, fun i j h1 h2 h3 => by omega⟩
  exact ⟨l', h1.trans (congrArg some h2), h3, h4⟩

/-- InPlace: the same items, sorted. -/
theorem L26_val (l : List It) (hl : l.length ≤ 10000) : ∃ l', L26 (l, ()) = some ((l', ()), ()) ∧ l'.Perm l ∧ Sd l' := by
  obtain ⟨l1, k1, k2, k3⟩ := Lg26_4_val l hl
  obtain ⟨l2, j1, j2, j3⟩ := Lg26_9_val l1 (by rw [k2.length_eq]; exact hl) k3
  refine ⟨l2, ?_, j2.trans k2, j3⟩
  refine (F26_eq Lg26_4 Lg26_9 l).trans ?_
  rw [if_pos (by omega), if_pos (by omega)]
  have e0 : (List.take 0 (List.replicate (l.length : Int).toNat ((0, 0) : Int × Int)) ++ List.take (List.replicate (l.length : Int).toNat ((0, 0) : Int × Int)).length l ++ List.drop (0 + min l.length (List.replicate (l.length : Int).toNat ((0, 0) : Int × Int)).length) (List.replicate (l.length : Int).toNat ((0, 0) : Int × Int))) = l := by
    simp
  simp only [e0]
  have e1 : IntKind.i64.wrap ((l.length : Int).tdiv 2) = ((l.length / 2 : Nat) : Int) := by
    rw [Int.tdiv_eq_ediv_of_nonneg (by omega), wi (by omega) (by omega)]
    omega
  rw [e1, k1, Option.bind_some]
  simp only
  rw [wi (by rw [k2.length_eq]; omega) (by rw [k2.length_eq]; omega), j1]
  rfl
end Go.Proofs.Rf
/- The functions, filled in. -/
namespace Go.Proofs.Rf
open Go Go.RowKit
noncomputable def K11 : (SV.denL ps11) → Option (rs11).den := F11
theorem okK11 : CallOK Tryd.prog 11 (mkCall ps11 rs11 K11) := call11
noncomputable def K19q : (psh19q.den) → Option (rs19q).den := F19q
theorem okK19q : CallOK Tryd.prog 19 (mkCallB psh19q rs19q m19q 1 K19q) := call19q
noncomputable def K17q : (psh17q.den) → Option (rs17q).den := F17q K19q
theorem okK17q : CallOK Tryd.prog 17 (mkCallB psh17q rs17q m17q 1 K17q) := call17q okK19q
noncomputable def K123 : (SV.denL ps123) → Option (rs123).den := F123
theorem okK123 : CallOK Tryd.prog 123 (mkCall ps123 rs123 K123) := call123
noncomputable def K124 : (SV.denL ps124) → Option (rs124).den := F124
theorem okK124 : CallOK Tryd.prog 124 (mkCall ps124 rs124 K124) := call124
noncomputable def Kg50_2 : sh50_2.den → Option (denX w50_2) := iterL (S50_2 K123 K124) 100
noncomputable def K50 : (SV.denL ps50) → Option (rs50).den := F50 Kg50_2
theorem okK50 : CallOK Tryd.prog 50 (mkCall ps50 rs50 K50) := call50 okK123 okK124 (lim_iterL _ _)
noncomputable def Kg15q_12 : sh15q_12.den → Option (denX w15q_12) := iterL (S15q_12 K50) 100
noncomputable def Kg15q_10 : sh15q_10.den → Option (denX w15q_10) := iterL (S15q_10 Kg15q_12) 100
noncomputable def K15q : (psh15q.den) → Option (rs15q).den := F15q K17q Kg15q_10
theorem okK15q : CallOK Tryd.prog 15 (mkCallB psh15q rs15q m15q 1 K15q) := call15q okK17q okK50 (lim_iterL _ _) (lim_iterL _ _)
noncomputable def Kg22_3 : sh22_3.den → Option (denX w22_3) := iterL (S22_3) 100
noncomputable def K22 : (SV.denL ps22) → Option (rs22).den := F22 Kg22_3
theorem okK22 : CallOK Tryd.prog 22 (mkCall ps22 rs22 K22) := call22 (lim_iterL _ _)
noncomputable def Kg25_4 : sh25_4.den → Option (denX w25_4) := iterL (S25_4) 100
noncomputable def K25 : (SV.denL ps25) → Option (rs25).den := F25 Kg25_4
theorem okK25 : CallOK Tryd.prog 25 (mkCall ps25 rs25 K25) := call25 (lim_iterL _ _)
noncomputable def K28 : (SV.denL ps28) → Option (rs28).den := F28
theorem okK28 : CallOK Tryd.prog 28 (mkCall ps28 rs28 K28) := call28
noncomputable def K53 : (SV.denL ps53) → Option (rs53).den := F53
theorem okK53 : CallOK Tryd.prog 53 (mkCall ps53 rs53 K53) := call53
noncomputable def Kg52_2 : sh52_2.den → Option (denX w52_2) := iterL (S52_2 K53) 100
noncomputable def K52 : (SV.denL ps52) → Option (rs52).den := F52 Kg52_2
theorem okK52 : CallOK Tryd.prog 52 (mkCall ps52 rs52 K52) := call52 okK53 (lim_iterL _ _)
noncomputable def K74 : (SV.denL ps74) → Option (rs74).den := F74
theorem okK74 : CallOK Tryd.prog 74 (mkCall ps74 rs74 K74) := call74
noncomputable def K56 : (SV.denL ps56) → Option (rs56).den := iterF (fun R => F56 K52 R K74) 100
theorem okK56 : CallOK Tryd.prog 56 (mkCall ps56 rs56 K56) := callOK_iter ⟨Tryd.f56, Tryd.func56, by kernel_rfl, by kernel_rfl⟩ (fun R hR => call56 okK52 hR okK74) 100
noncomputable def K30 : (SV.denL ps30) → Option (rs30).den := F30 K56
theorem okK30 : CallOK Tryd.prog 30 (mkCall ps30 rs30 K30) := call30 okK56
noncomputable def K34 : (SV.denL ps34) → Option (rs34).den := F34
theorem okK34 : CallOK Tryd.prog 34 (mkCall ps34 rs34 K34) := call34
noncomputable def K57 : (SV.denL ps57) → Option (rs57).den := F57
theorem okK57 : CallOK Tryd.prog 57 (mkCall ps57 rs57 K57) := call57
noncomputable def K75 : (SV.denL ps75) → Option (rs75).den := F75 K57
theorem okK75 : CallOK Tryd.prog 75 (mkCall ps75 rs75 K75) := call75 okK57
noncomputable def K58 : (SV.denL ps58) → Option (rs58).den := iterF (fun R => F58 R K75) 100
theorem okK58 : CallOK Tryd.prog 58 (mkCall ps58 rs58 K58) := callOK_iter ⟨Tryd.f58, Tryd.func58, by kernel_rfl, by kernel_rfl⟩ (fun R hR => call58 hR okK75) 100
noncomputable def K82 : (SV.denL ps82) → Option (rs82).den := F82
theorem okK82 : CallOK Tryd.prog 82 (mkCall ps82 rs82 K82) := call82
noncomputable def K76 : (SV.denL ps76) → Option (rs76).den := F76 K82
theorem okK76 : CallOK Tryd.prog 76 (mkCall ps76 rs76 K76) := call76 okK82
noncomputable def K59 : (SV.denL ps59) → Option (rs59).den := iterF (fun R => F59 R K75 K76) 100
theorem okK59 : CallOK Tryd.prog 59 (mkCall ps59 rs59 K59) := callOK_iter ⟨Tryd.f59, Tryd.func59, by kernel_rfl, by kernel_rfl⟩ (fun R hR => call59 hR okK75 okK76) 100
noncomputable def K35t : (psh35t.den) → Option (rs35t).den := F35t K28 K57 K58 K59
theorem okK35t : CallOK Tryd.prog 35 (mkCallB psh35t rs35t m35t 3 K35t) := call35t okK28 okK57 okK58 okK59
noncomputable def K60t : (psh60t.den) → Option (rs60t).den := F60t K34
theorem okK60t : CallOK Tryd.prog 60 (mkCallB psh60t rs60t m60t 1 K60t) := call60t okK34
noncomputable def K83u : (psh83u.den) → Option (rs83u).den := F83u
theorem okK83u : CallOK Tryd.prog 83 (mkCallB psh83u rs83u m83u 1 K83u) := call83u
noncomputable def K77u : (psh77u.den) → Option (rs77u).den := F77u K83u
theorem okK77u : CallOK Tryd.prog 77 (mkCallB psh77u rs77u m77u 2 K77u) := call77u okK83u
noncomputable def K78u : (psh78u.den) → Option (rs78u).den := F78u K83u
theorem okK78u : CallOK Tryd.prog 78 (mkCallB psh78u rs78u m78u 2 K78u) := call78u okK83u
noncomputable def K95 : (SV.denL ps95) → Option (rs95).den := F95
theorem okK95 : CallOK Tryd.prog 95 (mkCall ps95 rs95 K95) := call95
noncomputable def K93 : (SV.denL ps93) → Option (rs93).den := F93 K95
theorem okK93 : CallOK Tryd.prog 93 (mkCall ps93 rs93 K93) := call93 okK95
noncomputable def K90 : (SV.denL ps90) → Option (rs90).den := F90 K93
theorem okK90 : CallOK Tryd.prog 90 (mkCall ps90 rs90 K90) := call90 okK93
noncomputable def K84 : (SV.denL ps84) → Option (rs84).den := F84 K90
theorem okK84 : CallOK Tryd.prog 84 (mkCall ps84 rs84 K84) := call84 okK90
noncomputable def K94 : (psh94.den) → Option (rs94).den := F94
theorem okK94 : CallOK Tryd.prog 94 (mkCallB psh94 rs94 m94 0 K94) := call94
noncomputable def K91 : (psh91.den) → Option (rs91).den := F91 K94
theorem okK91 : CallOK Tryd.prog 91 (mkCallB psh91 rs91 m91 0 K91) := call91 okK94
noncomputable def K85u : (psh85u.den) → Option (rs85u).den := F85u K83u K91
theorem okK85u : CallOK Tryd.prog 85 (mkCallB psh85u rs85u m85u 2 K85u) := call85u okK83u okK91
noncomputable def Kg79u_1 : sh79u_1.den → Option (denX w79u_1) := iterL (S79u_1 K85u) 100
noncomputable def K79u : (psh79u.den) → Option (rs79u).den := F79u K84 Kg79u_1
theorem okK79u : CallOK Tryd.prog 79 (mkCallB psh79u rs79u m79u 2 K79u) := call79u okK84 okK85u (lim_iterL _ _)
noncomputable def K61u : (psh61u.den) → Option (rs61u).den := iterF (fun R => F61u R K77u K78u K79u) 100
theorem okK61u : CallOK Tryd.prog 61 (mkCallB psh61u rs61u m61u 2 K61u) := callOKB_iter ⟨Tryd.f61, Tryd.func61, by kernel_rfl, by kernel_rfl⟩ (fun R hR => call61u hR okK77u okK78u okK79u) 100
noncomputable def K83f : (psh83f.den) → Option (rs83f).den := F83f
theorem okK83f : CallOK Tryd.prog 83 (mkCallB psh83f rs83f m83f 1 K83f) := call83f
noncomputable def K77f : (psh77f.den) → Option (rs77f).den := F77f K83f
theorem okK77f : CallOK Tryd.prog 77 (mkCallB psh77f rs77f m77f 2 K77f) := call77f okK83f
noncomputable def K78f : (psh78f.den) → Option (rs78f).den := F78f K83f
theorem okK78f : CallOK Tryd.prog 78 (mkCallB psh78f rs78f m78f 2 K78f) := call78f okK83f
noncomputable def K61f : (psh61f.den) → Option (rs61f).den := F61f K61u K77f K77u K78f K78u K79u
theorem okK61f : CallOK Tryd.prog 61 (mkCallB psh61f rs61f m61f 2 K61f) := call61f okK61u okK77f okK77u okK78f okK78u okK79u
noncomputable def K62u : (psh62u.den) → Option (rs62u).den := F62u
theorem okK62u : CallOK Tryd.prog 62 (mkCallB psh62u rs62u m62u 1 K62u) := call62u
noncomputable def K36t : (psh36t.den) → Option (rs36t).den := F36t K60t K61f K62u
theorem okK36t : CallOK Tryd.prog 36 (mkCallB psh36t rs36t m36t 1 K36t) := call36t okK60t okK61f okK62u
noncomputable def Kg48_2 : sh48_2.den → Option (denX w48_2) := iterL (S48_2) 100
noncomputable def K48 : (SV.denL ps48) → Option (rs48).den := F48 Kg48_2
theorem okK48 : CallOK Tryd.prog 48 (mkCall ps48 rs48 K48) := call48 (lim_iterL _ _)
noncomputable def K49 : (SV.denL ps49) → Option (rs49).den := F49
theorem okK49 : CallOK Tryd.prog 49 (mkCall ps49 rs49 K49) := call49
noncomputable def Kg13q_7 : sh13q_7.den → Option (denX w13q_7) := iterL (S13q_7 K50) 100
noncomputable def K13q : (psh13q.den) → Option (rs13q).den := F13q K19q K48 K49 Kg13q_7
theorem okK13q : CallOK Tryd.prog 13 (mkCallB psh13q rs13q m13q 2 K13q) := call13q okK19q okK48 okK49 okK50 (lim_iterL _ _)
noncomputable def Kg10_6 : sh10_6.den → Option (denX w10_6) := iterL (S10_6 K13q) 100
noncomputable def K10 : (SV.denL ps10) → Option (rs10).den := F10 K11 K15q K22 K25 K28 K30 K34 K35t K36t Kg10_6
theorem okK10 : CallOK Tryd.prog 10 (mkCall ps10 rs10 K10) := call10 okK11 okK13q okK15q okK22 okK25 okK28 okK30 okK34 okK35t okK36t (lim_iterL _ _)
end Go.Proofs.Rf
/- Rf, part H: from a law's contract to what a given statement asks of its walk. -/
namespace Go.Proofs.Rf
open Go Go.RowKit

def iNone : Nat → Option Value := fun _ => none
def cDead : Nat → Blk := fun _ => .dead

theorem owned_none {ι : Nat → Option Value} {b : Nat} : ¬ owned ι cDead b := by
  rintro ⟨k, hk⟩
  rw [bk_dead rfl] at hk
  cases hk

/-- A world of which nothing is the call's own. -/
theorem HRel.start (w : World) (hg : GlOK w (fun b => b < w.heap.size)) : HRel (fun _ => False) (fun b => b < w.heap.size) w iNone cDead w :=
  ⟨fun k => trivial, fun k k' b h1 _ => (by rw [bk_dead rfl] at h1; cases h1), Kept.refl _ _, fun b hb => (owned_none hb).elim, fun b hb => hb, fun b hb => (owned_none hb).elim, fun b hb => hb.elim, hg.mono fun g q => ⟨⟨q, owned_none, fun q => q⟩, rfl⟩⟩

/-- A law that is handed data and returns true. -/
theorem law_walk {P : Program} {f : Nat} {ps : List SV} {F : SV.denL ps → Option (Shape.den ⟨[(0, .d false .bool)], []⟩)} (h : CallOK P f (mkCall ps ⟨[(0, .d false .bool)], []⟩ F)) (w : World) {args : List AV} {vs : List Value} {x : SV.denL ps} {fz : List (Nat × Blk)}
    (ht : SV.takeL cDead [] ps args = some (x, fz)) (hF : F x = some ((true, ()), ())) (hrel : RelL w (fun b => b < w.heap.size) iNone args vs) (hg : GlOK w (fun b => b < w.heap.size)) : Calls P f vs.toArray w fun e w' => e = .returned (.bool true) ∧ Below w.heap.size w w' := by
  have hok : okb (fun _ => False) w iNone cDead = fun b => b < w.heap.size := by
    funext b
    exact propext ⟨fun q => q.1, fun q => ⟨q, owned_none, fun q => q⟩⟩
  have hco : mkCall ps ⟨[(0, .d false .bool)], []⟩ F args cDead 0 Eff some = some ⟨.d .bool true, [], []⟩ := by
    unfold mkCall
    rw [ht]
    simp only [hF]
    rfl
  refine (h.run _ _ w w iNone cDead 0 args vs _ (HRel.start w hg) (by rw [hok]; exact hrel) hco (fun _ _ _ => rfl)).mono ?_
  rintro e w' ⟨v, rfl, ι', H, E, hv, _⟩
  have hv := rel_bool.1 hv
  exact ⟨by rw [hv], H.fr.os, H.fr.tape, H.fr.output, H.fr.size, fun i hi => H.fr.block i hi hi⟩
end Go.Proofs.Rf
/- Rf, part I: what a given statement hands to a law: data of the law's types, read off the world; and how it reads behind the call. -/
namespace Go.Proofs.Rf
open Go Go.RowKit Go.ChangeShapes Go.WideShapes

/-- A kind of numbers holds a number. -/
def fitK (k : IntKind) (n : Int) : Prop := k.min ≤ n ∧ n ≤ k.max

/-- Numbers fit their kinds; what is long is not too long. -/
def Ty.fit : (t : Ty) → t.den → Prop
  | .int k, n => fitK k n
  | .str, s => s.length ≤ maxLen
  | .sl t, xs => xs.length ≤ maxLen ∧ ∀ x ∈ xs, t.fit x
  | .pr a b, x => a.fit x.1 ∧ b.fit x.2
  | _, _ => True

def tyFs (g : Nat → Option Ty) (c : Nat → Nat) : Nat → List Field → Option (List Ty)
  | _, [] => some []
  | o, f :: r => match g f.type with
    | some ty => if (Nat.beq f.offset o && Nat.beq (c f.type) ty.size) = true then (match tyFs g c (o + ty.size) r with
      | some ts => some (ty :: ts)
      | none => none) else none
    | none => none

/-- The shape of data of a type, where its parts lie one behind the other. -/
def goodTy (P : Program) : Nat → Nat → Option Ty
  | 0, _ => none
  | k + 1, t => match P.underlying t with
    | some (.int i) => some (.int i)
    | some .bool => some .bool
    | some .string => some .str
    | some (.slice e) => (match goodTy P k e with
      | some ty => if (Nat.blt 0 ty.size && Nat.beq (P.cellsOf e) ty.size) = true then some (.sl ty) else none
      | none => none)
    | some (.struct fields) => (match tyFs (goodTy P k) P.cellsOf 0 fields.toList with
      | some ts => if Nat.beq (P.cellsOf t) (prL ts).size = true then some (prL ts) else none
      | none => none)
    | _ => none

section
variable {H : Type} {enc : TypeId × Value → H} {P : Program} {w : World} {sp : Nat → Bool} {held : Bool}

theorem cells_get {a : Addr} {n : Nat} {cs : List Value} (h : w.cells? 0 a n = some cs) : cs.length = n ∧ ∀ j u, cs[j]? = some u → w.cell? (a.add j) = some u := by
  unfold World.cells? at h
  rw [if_pos (Nat.zero_le _)] at h
  have hl := mapM_some_length h
  rw [List.length_range] at hl
  refine ⟨hl, fun j u hu => ?_⟩
  have hj : j < n := by
    rw [← hl]
    exact (List.getElem?_eq_some_iff.1 hu).1
  have := mapM_some_get h j j (by simp [hj])
  rw [hu] at this
  exact this

theorem add_plain (g o j : Nat) : Addr.add ⟨g, o, none⟩ j = ⟨g, o + j, none⟩ := by
  unfold Addr.add
  split
  · rename_i h
    rw [h]; rfl
  · rfl

theorem add_two (a : Addr) {m r j : Nat} (h : m + r = j) : (a.add m).add r = a.add j := by
  subst h
  unfold Addr.add
  by_cases h1 : m = 0
  · subst h1
    simp
  · by_cases h2 : r = 0
    · subst h2
      simp [h1]
    · rw [if_neg h1, if_neg h2, if_neg (by omega), Nat.add_assoc]

theorem cell_place {a : Addr} {u : Value} (h : w.cell? a = some u) : a.spot = none ∧ a.block < w.heap.size := by
  refine ⟨World.cell?_spot h, ?_⟩
  unfold World.cell? at h
  split at h
  · rename_i h1
    exact (Array.getElem?_eq_some_iff.1 h1).1
  · cases h

/-- A row of equal parts. -/
theorem rowL {α : Type} {D : α → List Value → Prop} {Q : α → Prop} {n : Nat} (at_ : Nat → Option (List Value)) : ∀ (len k : Nat), (∀ i, i < len → ∃ cs x, at_ (k + i) = some cs ∧ cs.length = n ∧ D x cs ∧ Q x) →
    ∃ (xs : List α) (cs : List Value), xs.length = len ∧ RzL D xs cs ∧ cs.length = len * n ∧ (∀ x ∈ xs, Q x) ∧ ∀ i j c, i < len → at_ (k + i) = some c → j < n → cs[i * n + j]? = c[j]?
  | 0, k, _ => ⟨[], [], rfl, rfl, by simp, by simp, fun i j c hi => by omega⟩
  | len + 1, k, h => by
    obtain ⟨c0, x0, h0, hl0, hd0, hq0⟩ := h 0 (by omega)
    obtain ⟨xs, cs, hxl, hr, hcl, hq, hg⟩ := rowL at_ len (k + 1) (fun i hi => by
      obtain ⟨c, x, h1, h2⟩ := h (i + 1) (by omega)
      exact ⟨c, x, by rw [show k + 1 + i = k + (i + 1) by omega]; exact h1, h2⟩)
    refine ⟨x0 :: xs, c0 ++ cs, by simp [hxl], ⟨c0, cs, rfl, hd0, hr⟩, by rw [List.length_append, hl0, hcl, Nat.add_mul]; omega, ?_, ?_⟩
    · intro x hx
      rcases List.mem_cons.1 hx with rfl | hx
      · exact hq0
      · exact hq x hx
    · intro i j c hi hc hj
      cases i with
      | zero =>
        rw [Nat.add_zero] at h0 hc
        rw [h0] at hc
        cases hc
        rw [Nat.zero_mul, Nat.zero_add, List.getElem?_append_left (by omega)]
      | succ i =>
        rw [List.getElem?_append_right (by rw [hl0, Nat.add_mul]; omega), show (i + 1) * n + j - c0.length = i * n + j by rw [hl0, Nat.add_mul]; omega]
        exact hg i j c (by omega) (by rw [show k + 1 + i = k + (i + 1) by omega]; exact hc) hj

/-- The parts of a struct. -/
theorem fields_open {g : Nat → Option Ty} {c : Nat → Nat} {cs : List Value} {D : Nat → List Value → Prop} (ho : ∀ t ty us, g t = some ty → D t us → ∃ x : ty.den, Rz w (fun b => b < w.heap.size) ty x us ∧ ty.fit x) :
    ∀ (fs : List Field) (ts : List Ty) (o : Nat), tyFs g c o fs = some ts → (∀ f ∈ fs, D f.type ((cs.drop f.offset).take (c f.type))) → (cs.drop o).length = (prL ts).size →
      ∃ x : (prL ts).den, Rz w (fun b => b < w.heap.size) (prL ts) x (cs.drop o) ∧ (prL ts).fit x
  | [], ts, o, ht, _, hl => by
    cases ht
    exact ⟨(), List.eq_nil_of_length_eq_zero hl, trivial⟩
  | f :: r, ts, o, ht, hD, hl => by
    unfold tyFs at ht
    split at ht
    · rename_i ty hty
      split at ht
      · rename_i hc
        split at ht
        · rename_i ts' hts
          cases ht
          simp only [Bool.and_eq_true] at hc
          have ho' := Nat.eq_of_beq_eq_true hc.1
          have hs := Nat.eq_of_beq_eq_true hc.2
          have hd := hD f (by simp)
          rw [ho', hs] at hd
          obtain ⟨x, hx, hf⟩ := ho _ _ _ hty hd
          cases ts' with
          | nil =>
            have hl : _ = ty.size := hl
            rw [List.take_of_length_le (by omega)] at hx
            exact ⟨x, hx, hf⟩
          | cons b r' =>
            have hl : _ = ty.size + (prL (b :: r')).size := hl
            obtain ⟨y, hy, hg⟩ := fields_open ho r (b :: r') (o + ty.size) hts (fun f hf => hD f (by simp [hf])) (by rw [← List.drop_drop, List.length_drop]; omega)
            exact ⟨(x, y), ⟨_, _, by rw [← List.drop_drop, List.take_append_drop], hx, hy⟩, hf, hg⟩
        · cases ht
      · cases ht
    · cases ht

/-- Data of a type, read off its cells. -/
theorem open_cells : ∀ (k : Nat) (t : Nat) (ty : Ty), goodTy P k t = some ty → ∀ (fuel : Nat) (cs : List Value) (d : DataW H × List MemPlace), DataW.trod enc P w 0 sp held fuel t cs = some d →
    ∃ x : ty.den, Rz w (fun b => b < w.heap.size) ty x cs ∧ ty.fit x
  | 0, t, ty, hty, _, _, _, _ => by cases hty
  | k + 1, t, ty, hty, fuel, cs, d, h => by
    unfold goodTy at hty
    split at hty
    · rename_i i hu
      cases hty
      obtain ⟨n, rfl, _, hw⟩ := DataW.trod_int hu h
      simp only [Lit.wf, Bool.and_eq_true, decide_eq_true_eq] at hw
      exact ⟨n, rfl, hw⟩
    · rename_i hu
      cases hty
      obtain ⟨b, rfl, _⟩ := DataW.trod_bool hu h
      exact ⟨b, rfl, trivial⟩
    · rename_i hu
      cases hty
      obtain ⟨s, rfl, _, hs⟩ := DataW.trod_string hu h
      refine ⟨s.data.toList, ?_, ?_⟩
      · show _ = _
        cases s
        rfl
      · show _ ≤ _
        rw [Array.length_toList]
        exact hs
    · rename_i e hu
      split at hty
      · rename_i te hte
        split at hty
        · rename_i hc
          cases hty
          simp only [Bool.and_eq_true] at hc
          have hpos : 0 < te.size := Nat.le_of_ble_eq_true hc.1
          have hsz := Nat.eq_of_beq_eq_true hc.2
          rcases DataW.trod_slice hu h with ⟨rfl, _⟩ | ⟨a, len, cap, elems, rest, n, _, rfl, _, _, hlc, hcm, hel, hget, _, _⟩
          · exact ⟨[], ⟨none, 0, rfl, Nat.le_refl _, fun hp => by simp at hp⟩, by simp [Ty.fit]⟩
          · have hrow : ∀ i, i < len → ∃ cs x, (fun i => w.cells? 0 (a.add (i * te.size)) te.size) (0 + i) = some cs ∧ cs.length = te.size ∧ Rz w (fun b => b < w.heap.size) te x cs ∧ te.fit x := by
              intro i hi
              have hg := hget i hi
              rw [hsz, List.getElem?_eq_getElem (by omega)] at hg
              obtain ⟨c, h1, h2⟩ := Option.bind_eq_some_iff.1 hg
              obtain ⟨x, hx, hf⟩ := open_cells k e te hte n c _ h2
              exact ⟨c, x, by rw [Nat.zero_add]; exact h1, (cells_get h1).1, hx, hf⟩
            obtain ⟨xs, cs, hxl, hr, hcl, hq, hg⟩ := rowL (fun i => w.cells? 0 (a.add (i * te.size)) te.size) len 0 hrow
            refine ⟨xs, ⟨some a, cap, by rw [hxl], by rw [hxl]; exact hlc, fun hp => ?_⟩, by rw [hxl]; omega, hq⟩
            rw [hxl] at hp
            have hcell : ∀ j u, cs[j]? = some u → w.cell? (a.add j) = some u := by
              intro j u hu
              have hj : j < len * te.size := by rw [← hcl]; exact (List.getElem?_eq_some_iff.1 hu).1
              have hi : j / te.size < len := Nat.div_lt_of_lt_mul (by rw [Nat.mul_comm]; exact hj)
              obtain ⟨c, _, h1, hl, _⟩ := hrow (j / te.size) hi
              have hjm : j % te.size < te.size := Nat.mod_lt _ hpos
              have e1 : j / te.size * te.size + j % te.size = j := by rw [Nat.mul_comm]; exact Nat.div_add_mod _ _
              have := hg (j / te.size) (j % te.size) c hi h1 hjm
              rw [e1, hu] at this
              rw [Nat.zero_add] at h1
              have h3 := (cells_get h1).2 (j % te.size) u this.symm
              have e2 : (a.add (j / te.size * te.size)).add (j % te.size) = a.add j := add_two a e1
              rw [← e2]
              exact h3
            have h0 : ∃ u, cs[0]? = some u := by
              refine ⟨_, List.getElem?_eq_getElem ?_⟩
              rw [hcl]
              exact Nat.mul_pos hp hpos
            obtain ⟨u, hu⟩ := h0
            have hp := cell_place (hcell 0 u hu)
            obtain ⟨g, o, s⟩ := a
            obtain ⟨hp1, hp2⟩ := hp
            have hs : s = none := hp1
            subst hs
            exact ⟨g, o, cs, rfl, hp2, hr, fun j u hu => by rw [← add_plain]; exact hcell j u hu⟩
        · cases hty
      · cases hty
    · rename_i fields hu
      split at hty
      · rename_i ts hts
        split at hty
        · rename_i hc
          cases hty
          obtain ⟨xs, n, _, _, hlen, _, hf⟩ := DataW.trod_struct hu h
          rw [Nat.eq_of_beq_eq_true hc] at hlen
          have hf : ∀ f ∈ fields.toList, ∃ y, DataW.trod enc P w 0 sp held n f.type ((cs.drop f.offset).take (P.cellsOf f.type)) = some y := by
            intro f hm
            obtain ⟨i, hi, e⟩ := List.getElem_of_mem hm
            have hi' : i < fields.size := by simpa using hi
            have e' : fields[i]? = some f := by rw [Array.getElem?_eq_getElem hi']; simp only [← e, Array.getElem_toList]
            have := hf i f e'
            rw [this]
            exact ⟨xs[i]'(by omega), List.getElem?_eq_getElem _⟩
          have := fields_open (cs := cs) (D := fun t us => ∃ y, DataW.trod enc P w 0 sp held n t us = some y) (fun t ty us h1 ⟨y, h2⟩ => open_cells k t ty h1 n us y h2) fields.toList ts 0 hts hf (by rw [List.drop_zero]; exact hlen)
          rw [List.drop_zero] at this
          exact this
        · cases hty
      · cases hty
    · cases hty

/-! ### Arguments -/
def aggB (P : Program) (t : Nat) : Bool := match P.underlying t with
  | some (.struct _) => true
  | _ => false

theorem eqv_self : ∀ (t : Ty), t.eqv t = some ⟨rfl⟩
  | .int k => by
    have : ikEq k k = true := by cases k <;> rfl
    simp [Ty.eqv, this]
  | .bool => rfl
  | .str => rfl
  | .sl t => by
    unfold Ty.eqv
    rw [eqv_self t]
  | .pr a b => by
    unfold Ty.eqv
    rw [eqv_self a, eqv_self b]
  | .un => rfl
  | .ic => rfl
  | .fk f => by simp [Ty.eqv]
  | .tr a b => by
    unfold Ty.eqv
    rw [eqv_self a, eqv_self b]

theorem pack_unpack (C : Nat → Blk) : ∀ (t : Ty) (x : t.den) (r : List AV), pack C t (unpack t x ++ r) = some (x, r, [])
  | .int k, x, r => by
    have : dat1 C (.int k) (.d (.int k) x) = some (x, []) := by
      show (if ikEq k k = true then some (x, []) else none) = _
      rw [if_pos (by cases k <;> rfl)]
    show (match dat1 C (.int k) (.d (.int k) x) with | some (x, f) => some (x, r, f) | none => none) = _
    rw [this]
  | .bool, x, r => rfl
  | .str, x, r => rfl
  | .sl t, x, r => by
    have : dat1 C (.sl t) (.d (.sl t) x) = some (x, []) := by
      simp only [dat1, eqv_self]
      rfl
    show (match dat1 C (.sl t) (.d (.sl t) x) with | some (x, f) => some (x, r, f) | none => none) = _
    rw [this]
  | .pr a b, x, r => by
    show pack C (.pr a b) ((unpack a x.1 ++ unpack b x.2) ++ r) = _
    rw [List.append_assoc]
    unfold pack
    rw [pack_unpack C a x.1]
    simp only
    rw [pack_unpack C b x.2]
    rfl
  | .un, x, r => rfl
  | .ic, x, r => rfl
  | .fk f, x, r => by
    have : dat1 C (.fk f) (.fn f []) = some ((), []) := by
      show (if Nat.beq f f = true then some ((), []) else none) = _
      rw [if_pos (Nat.beq_refl f)]
    show (match dat1 C (.fk f) (.fn f []) with | some (x, f) => some (x, r, f) | none => none) = _
    rw [this]
  | .tr a b, x, r => by
    have : dat1 C (.tr a b) (.d (.tr a b) x) = some (x, []) := by
      simp only [dat1, eqv_self]
      rfl
    show (match dat1 C (.tr a b) (.d (.tr a b) x) with | some (x, f) => some (x, r, f) | none => none) = _
    rw [this]

theorem dat_ag (C : Nat → Blk) (t : Ty) (x : t.den) : dat C t (.ag (unpack t x)) = some (x, []) := by
  have := pack_unpack C t x []
  rw [List.append_nil] at this
  show (match pack C t (unpack t x) with | some (x, [], f) => some (x, f) | _ => none) = _
  rw [this]

theorem take_ag (C : Nat → Blk) (t : Ty) (x : t.den) : SV.take C [] (.d true t) (.ag (unpack t x)) = some (x, []) := dat_ag C t x

theorem take_one (C : Nat → Blk) (t : Ty) (x : t.den) (h : unpack t x = [.d t x]) : SV.take C [] (.d false t) (.d t x) = some (x, []) := by
  have := pack_unpack C t x []
  rw [List.append_nil, h] at this
  show (match pack C t [.d t x] with | some (x, [], f) => some (x, f) | _ => none) = _
  rw [this]

theorem open_arg {r : Reach} {b0 k t : Nat} {ty : Ty} {v : Value} {d : DataW H} {ps : List MemPlace} (hg : goodTy P (k + 1) t = some ty) (hv : Value.okWide P w r b0 t v) (hd : DataW.Trod enc P w 0 sp held t v d ps) :
    ∃ (a : AV) (x : ty.den), RelV w (fun b => b < w.heap.size) iNone a v ∧ SV.take cDead [] (.d (aggB P t) ty) a = some (x, []) ∧ ty.fit x := by
  obtain ⟨fuel, hf⟩ := hd
  obtain ⟨x, hx, hfit⟩ := open_cells (k + 1) t ty hg fuel _ _ hf
  unfold goodTy at hg
  unfold aggB
  split at hg
  · rename_i i hu
    cases hg
    obtain ⟨n, rfl⟩ := okWide_int hu hv
    rw [hu]
    exact ⟨_, x, by simp only [RelV]; exact hx, take_one _ _ x rfl, hfit⟩
  · rename_i hu
    cases hg
    obtain ⟨n, rfl⟩ := okWide_bool hu hv
    rw [hu]
    exact ⟨_, x, by simp only [RelV]; exact hx, take_one _ _ x rfl, hfit⟩
  · rename_i hu
    cases hg
    obtain ⟨n, rfl⟩ := okWide_string hu hv
    rw [hu]
    exact ⟨_, x, by simp only [RelV]; exact hx, take_one _ _ x rfl, hfit⟩
  · rename_i e hu
    split at hg
    · split at hg
      · cases hg
        obtain ⟨a, l, c, rfl⟩ := okWide_slice hu hv
        rw [hu]
        exact ⟨_, x, by simp only [RelV]; exact hx, take_one _ _ x rfl, hfit⟩
      · cases hg
    · cases hg
  · rename_i fs hu
    split at hg
    · split at hg
      · cases hg
        obtain ⟨cs, rfl, _⟩ := okWide_struct hu hv
        rw [hu]
        have hx : Rz _ _ _ x cs.toList := hx
        exact ⟨_, x, by simp only [RelV]; exact ⟨cs.toList, by simp, RelL_unpack _ _ _ hx⟩, take_ag _ _ x, hfit⟩
      · cases hg
    · cases hg
  · cases hg

def argsOf (P : Program) : List Nat → Option (List SV)
  | [] => some []
  | t :: r => match goodTy P 16 t with
    | some ty => match argsOf P r with
      | some s => some (.d (aggB P t) ty :: s)
      | none => none
    | none => none

def fitDL : (l : List SV) → SV.denL l → Prop
  | [], _ => True
  | .d _ t :: r, x => t.fit x.1 ∧ fitDL r x.2
  | _ :: _, _ => False

/-- All arguments, as data. -/
theorem open_args {r : Reach} {b0 : Nat} : ∀ (ts : List TypeId) (vs : List Value) (ds : List (DataW H)) (ps : List MemPlace), DataW.TrodAll enc P w 0 sp held ts vs ds ps →
    (∀ (j : Nat) t v, ts[j]? = some t → vs[j]? = some v → Value.okWide P w r b0 t v) → ∀ (svs : List SV), argsOf P ts = some svs →
    ∃ (avs : List AV) (x : SV.denL svs), RelL w (fun b => b < w.heap.size) iNone avs vs ∧ SV.takeL cDead [] svs avs = some (x, []) ∧ fitDL svs x
  | [], vs, ds, ps, h, _, svs, hs => by
    obtain ⟨rfl, _, _⟩ := trodAll_nil h
    cases hs
    exact ⟨[], (), RelL_nil.2 rfl, rfl, trivial⟩
  | t :: ts, vs, ds, ps, h, hv, svs, hs => by
    obtain ⟨v, vs', d, ds', p, q, rfl, rfl, rfl, hd, hr⟩ := trodAll_cons h
    unfold argsOf at hs
    split at hs
    · rename_i ty hty
      split at hs
      · rename_i s hs'
        cases hs
        obtain ⟨a, x, h1, h2, h3⟩ := open_arg hty (hv 0 t v rfl rfl) hd
        obtain ⟨avs, y, h4, h5, h6⟩ := open_args ts vs' ds' q hr (fun j t' v' h7 h8 => hv (j + 1) t' v' h7 h8) s hs'
        refine ⟨a :: avs, (x, y), RelL_cons.2 ⟨v, vs', rfl, h1, h4⟩, ?_, h3, h6⟩
        unfold SV.takeL
        rw [h2]
        simp only
        rw [h5]
        rfl
      · cases hs
    · cases hs

/-- They read behind the call as ahead of it. -/
theorem shut_args {W W' : World} (hl : laidOutB P = true) (hb : Below W.heap.size W W') : ∀ (ts : List TypeId) (vs : List Value) (ds : List (DataW H)) (ps : List MemPlace), (∀ t ∈ ts, P.readableRec t = true ∧ t < P.types.size) →
    DataW.TrodAll enc P W 0 (fun _ => true) true ts vs ds ps → DataW.TrodAll enc P W' 0 (fun b => decide (b < W.heap.size)) true ts vs ds ps
  | [], vs, ds, ps, _, h => by
    obtain ⟨rfl, rfl, rfl⟩ := trodAll_nil h
    exact trodAll_mk0
  | t :: ts, vs, ds, ps, ht, h => by
    obtain ⟨v, vs', d, ds', p, q, rfl, rfl, rfl, hd, hr⟩ := trodAll_cons h
    have lt : ∀ x ∈ p, x.block < W.heap.size := by
      obtain ⟨m, hm⟩ := hd
      exact DataW.trod_lt m _ _ _ hm
    exact trodAll_cons_mk (Below.trod hl (ht t (by simp)).1 (ht t (by simp)).2 hd hb lt) (shut_args hl hb ts vs' ds' q (fun t' h' => ht t' (by simp [h'])) hr)
end
end Go.Proofs.Rf
/- The law of selected keys. -/
namespace Go.Proofs.Rf
open Go

theorem L27_val (l : List It) (k : Nat) (hk : k < l.length) (hl : l.length ≤ 10000) : ∃ l', L27 (l, (k : Int), ()) = some (((l'.getD k dI).1, 0, ()), ()) ∧ l'.Perm l ∧ Sd l' := by
  obtain ⟨l', h1, h2, h3⟩ := L26_val l hl
  refine ⟨l', ?_, h2, h3⟩
  refine (F27_eq L26 l k).trans ?_
  rw [if_neg (by simp), if_neg (by simp; omega), h1, Option.bind_some]
  simp only
  rw [if_pos (by omega), if_pos (by rw [h2.length_eq]; omega)]
  rfl

theorem L27_off (l : List It) (k : Int) (hk : k < 0 ∨ k ≥ l.length) : L27 (l, k, ()) = some ((0, 26, ()), ()) := by
  refine (F27_eq L26 l k).trans ?_
  by_cases h : k < 0
  · rw [if_pos (by simpa using h)]
  · rw [if_neg (by simpa using h), if_pos (by simp; omega)]

end Go.Proofs.Rf
/- The law of stable sorting, searching and selecting. -/
namespace Go.Proofs.Rf
open Go

/-! Insertion in two orders. -/
theorem insL_comm {x y : It} (h : x.1 < y.1) : ∀ s : List It, insL y (insL x s) = insL x (insL y s)
  | [] => by
    have h1 : ¬ y.1 < x.1 := by omega
    simp only [insL, if_pos h, if_neg h1]
  | z :: s => by
    have h1 : ¬ y.1 < x.1 := by omega
    by_cases hx : x.1 < z.1
    · by_cases hy : y.1 < z.1
      · simp only [insL, if_pos hx, if_pos hy, if_pos h, if_neg h1]
      · simp only [insL, if_pos hx, if_neg hy, if_neg h1]
    · have hy : ¬ y.1 < z.1 := by omega
      simp only [insL, if_neg hx, if_neg hy, insL_comm h s]

abbrev fins (s b : List It) : List It := b.foldl (fun out x => insL x out) s

theorem fins_front {x : It} : ∀ (m s : List It), (∀ y ∈ m, x.1 < y.1) → fins (insL x s) m = insL x (fins s m)
  | [], _, _ => rfl
  | y :: m, s, h => by
    show fins (insL y (insL x s)) m = insL x (fins (insL y s) m)
    rw [insL_comm (h y (by simp)), fins_front m _ fun z hz => h z (by simp [hz])]

theorem fins_insL (x : It) : ∀ (out s : List It), Up out → fins s (insL x out) = insL x (fins s out)
  | [], _, _ => rfl
  | y :: o, s, h => by
    have h1 := List.pairwise_cons.1 h
    show fins s (if x.1 < y.1 then x :: y :: o else y :: insL x o) = _
    split
    · rename_i hx
      exact fins_front (y :: o) s fun z hz => by
        rcases List.mem_cons.1 hz with rfl | hz
        · exact hx
        · have := h1.1 z hz; omega
    · exact fins_insL x o (insL y s) h1.2

theorem fins_isort : ∀ (n : Nat) (s b : List It), b.length = n → fins s (isort b) = fins s b
  | 0, s, b, h => by
    obtain rfl := List.length_eq_zero_iff.1 h
    rfl
  | n + 1, s, b, h => by
    have hne : b ≠ [] := by rintro rfl; cases h
    have e := List.dropLast_concat_getLast hne
    have hl : b.dropLast.length = n := by rw [List.length_dropLast, h]; rfl
    rw [← e, isort_snoc, fins_insL _ _ _ (isort_up _), fins_isort n s b.dropLast hl]
    show _ = List.foldl _ s (b.dropLast ++ [b.getLast hne])
    rw [List.foldl_append]
    rfl

theorem isort_halves (a b : List It) : mg (isort a) (isort b) = isort (a ++ b) := by
  rw [mg_isort (isort_up a) (isort_up b)]
  show fins [] (isort a ++ isort b) = fins [] (a ++ b)
  unfold fins
  rw [List.foldl_append, List.foldl_append]
  show fins (isort (isort a)) (isort b) = fins (isort a) b
  rw [isort_sorted (isort_up a), fins_isort _ _ _ rfl]

theorem L74_val (l : List It) (hl : l.length ≤ 1000) : L74 (l, ()) = some ((l, ()), ()) := by
  refine (F74_eq l).trans ?_
  by_cases h : 0 < l.length
  · rw [if_pos h, if_pos (by omega)]
  · obtain rfl : l = [] := List.length_eq_zero_iff.1 (by omega)
    rw [if_neg h, if_pos (by simp)]
    unfold meet
    rw [if_pos rfl]

theorem L56_val : ∀ (n : Nat) (l : List It), l.length ≤ 2 ^ n → l.length ≤ 900 → iterF (fun R => F56 L52 R L74) (n + 1) (l, (), ()) = some ((isort l, ()), ())
  | n, l, hn, hl => by
    show F56 L52 (iterF (fun R => F56 L52 R L74) n) L74 (l, (), ()) = _
    refine (F56_eq L52 _ L74 l).trans ?_
    by_cases h : l.length < 2
    · rw [if_pos (by simpa using (by omega : (l.length : Int) < 2)), L74_val l (by omega)]
      have : isort l = l := by
        match l, h with
        | [], _ => rfl
        | [x], _ => rfl
      rw [this]
      rfl
    · cases n with
      | zero => omega
      | succ n =>
        have e1 : IntKind.i64.wrap ((l.length : Int).tdiv 2) = ((l.length / 2 : Nat) : Int) := by
          rw [Int.tdiv_eq_ediv_of_nonneg (by omega), wi (by omega) (by omega)]
          omega
        rw [Nat.pow_succ] at hn
        rw [if_neg (by simp; omega), e1, if_pos (by omega), if_pos (by omega), Int.toNat_natCast, L56_val n (l.take (l.length / 2)) (by rw [List.length_take]; omega) (by rw [List.length_take]; omega), Option.bind_some,
          if_pos (by omega), if_pos (by omega), if_pos (by omega), L56_val n (l.drop (l.length / 2)) (by rw [List.length_drop]; omega) (by rw [List.length_drop]; omega), Option.bind_some]
        simp only
        rw [L52_val _ _ (by rw [isort_length, List.length_take]; omega) (by rw [isort_length, List.length_drop]; omega), isort_halves, List.take_append_drop]
        rfl

theorem L30_val (l : List It) (hl : l.length ≤ 900) : L30 (l, ()) = some ((isort l, ()), ()) := by
  refine (F30_eq L56 l).trans ?_
  rw [show L56 (l, (), ()) = _ from L56_val 99 l (Nat.le_trans hl (by decide)) hl]
  rfl

theorem L28_29 (a b : Int) : L28 (a, b, ()) = L29 (a, b, ()) := (F28_eq a b).trans (F29_eq a b).symm
theorem L29_some (a b : Int) : ∃ r, L29 (a, b, ()) = some ((r, ()), ()) := ⟨_, F29_eq a b⟩

/-! Searching. -/
def At (l : List It) (key : Int) (k : Nat) : Prop := k ≤ l.length ∧ (∀ j, j < k → (l.getD j dI).1 < key) ∧ (∀ j, k ≤ j → j < l.length → ¬ (l.getD j dI).1 < key)

theorem At.eq {l : List It} {key : Int} {k m : Nat} (h : At l key k) (g : At l key m) : k = m := by
  obtain ⟨h1, h2, h3⟩ := h
  obtain ⟨g1, g2, g3⟩ := g
  rcases Nat.lt_trichotomy k m with q | q | q
  · exact absurd (g2 k q) (h3 k (Nat.le_refl _) (by omega))
  · exact q
  · exact absurd (h2 m q) (g3 m (Nat.le_refl _) (by omega))

theorem srt_mono {l : List It} (h : Srt l) : ∀ d i, i + d < l.length → (l.getD i dI).1 ≤ (l.getD (i + d) dI).1
  | 0, _, _ => Int.le_refl _
  | d + 1, i, hi => by
    have h1 := srt_mono h d i (by omega)
    have h2 := h (i + d) (by omega)
    rw [show i + (d + 1) = i + d + 1 by omega]
    have h3 : (l.getD (i + d) (0, 0)).1 = (l.getD (i + d) dI).1 := rfl
    have h4 : (l.getD (i + d + 1) (0, 0)).1 = (l.getD (i + d + 1) dI).1 := rfl
    omega

theorem srt_le {l : List It} (h : Srt l) {i j : Nat} (hij : i ≤ j) (hj : j < l.length) : (l.getD i dI).1 ≤ (l.getD j dI).1 := by
  have := srt_mono h (j - i) i (by omega)
  rwa [show i + (j - i) = j by omega] at this

theorem Lg31_5_val (l : List It) (key : Int) (h : Srt l) (hl : l.length ≤ 10000) : ∃ k, At l key k ∧ Lg31_5 ((l, key, 0, (l.length : Int), ()), ()) = some (((k : Int), ()), ()) := by
  obtain ⟨z, h1, k, h2, h3⟩ := limL_ind (f := S31_5) (fun s => (s.1.2.2.2.1 - s.1.2.2.1).toNat)
    (fun s => ∃ a b : Nat, a ≤ b ∧ b ≤ l.length ∧ s = ((l, key, (a : Int), (b : Int), ()), ()) ∧ (∀ j, j < a → (l.getD j dI).1 < key) ∧ (∀ j, b ≤ j → j < l.length → ¬ (l.getD j dI).1 < key))
    (fun z => ∃ k, At l key k ∧ z = (((k : Int), ()), ())) (by
    rintro s ⟨a, b, hab, hb, rfl, ha1, hb1⟩
    rw [show S31_5 _ = _ from S31_5_eq _ _ _ _]
    by_cases hlt : a < b
    · have e1 : IntKind.i64.wrap ((a : Int) + IntKind.i64.wrap ((IntKind.i64.wrap ((b : Int) - (a : Int))).tdiv 2)) = ((a + (b - a) / 2 : Nat) : Int) := by
        rw [wi (n := (b : Int) - (a : Int)) (by omega) (by omega), Int.tdiv_eq_ediv_of_nonneg (by omega), wi (n := ((b : Int) - (a : Int)) / 2) (by omega) (by omega), wi (by omega) (by omega)]
        omega
      rw [if_pos (by simp; omega), e1]
      have hm : a + (b - a) / 2 < b := by omega
      have hm2 : a ≤ a + (b - a) / 2 := by omega
      generalize a + (b - a) / 2 = m at *
      rw [if_pos (by omega), if_pos (by omega), Int.toNat_natCast, wi (n := (m : Int) + 1) (by omega) (by omega)]
      by_cases hk : (l.getD m (0, 0)).1 < key
      · rw [if_pos (by simpa using hk)]
        refine .inl ⟨_, rfl, ⟨m + 1, b, by omega, hb, rfl, fun j hj => ?_, hb1⟩, ?_⟩
        · have := srt_le h (show j ≤ m by omega) (by omega)
          have h3 : (l.getD m (0, 0)).1 = (l.getD m dI).1 := rfl
          omega
        · show ((b : Int) - ((m : Int) + 1)).toNat < ((b : Int) - (a : Int)).toNat
          omega
      · rw [if_neg (by simpa using hk)]
        refine .inl ⟨_, rfl, ⟨a, m, by omega, by omega, rfl, ha1, fun j hj hjl => ?_⟩, ?_⟩
        · have := srt_le h hj hjl
          have h3 : (l.getD m (0, 0)).1 = (l.getD m dI).1 := rfl
          omega
        · show ((m : Int) - (a : Int)).toNat < ((b : Int) - (a : Int)).toNat
          omega
    · obtain rfl : a = b := by omega
      rw [if_neg (by simp)]
      exact .inr ⟨_, rfl, a, ⟨hb, ha1, hb1⟩, rfl⟩) ((l, key, ((0 : Nat) : Int), (l.length : Int), ()), ()) ⟨0, l.length, by omega, by omega, rfl, fun j hj => by omega, fun j h1 h2 => by omega⟩
  exact ⟨k, h2, h1.trans (congrArg some h3)⟩

theorem Lg32_4_val (l : List It) (key : Int) (h : Srt l) (hl : l.length ≤ 10000) : ∃ k, At l key k ∧ Lg32_4 ((l, key, 0, ()), ()) = some (((k : Int), ()), ()) := by
  obtain ⟨z, h1, k, h2, h3⟩ := limL_ind (f := S32_4) (fun s => l.length - s.1.2.2.1.toNat)
    (fun s => ∃ a : Nat, a ≤ l.length ∧ s = ((l, key, (a : Int), ()), ()) ∧ (∀ j, j < a → (l.getD j dI).1 < key))
    (fun z => ∃ k, At l key k ∧ z = (((k : Int), ()), ())) (by
    rintro s ⟨a, ha, rfl, ha1⟩
    rw [show S32_4 _ = _ from S32_4_eq _ _ _]
    by_cases hlt : a < l.length
    · rw [if_pos (by simp; omega), if_pos (by omega), if_pos (by omega), Int.toNat_natCast, wi (n := (a : Int) + 1) (by omega) (by omega)]
      by_cases hk : (l.getD a (0, 0)).1 < key
      · rw [if_pos (by simpa using hk)]
        refine .inl ⟨_, rfl, ⟨a + 1, by omega, rfl, fun j hj => ?_⟩, ?_⟩
        · by_cases q : j = a
          · subst q; exact hk
          · exact ha1 j (by omega)
        · show l.length - ((a : Int) + 1).toNat < l.length - (a : Int).toNat
          omega
      · rw [if_neg (by simpa using hk)]
        refine .inr ⟨_, rfl, a, ⟨ha, ha1, fun j hj hjl => ?_⟩, rfl⟩
        have := srt_le h hj hjl
        have h3 : (l.getD a (0, 0)).1 = (l.getD a dI).1 := rfl
        omega
    · rw [if_neg (by simp; omega)]
      exact .inr ⟨_, rfl, a, ⟨ha, ha1, fun j h1 h2 => by omega⟩, rfl⟩) ((l, key, ((0 : Nat) : Int), ()), ()) ⟨0, by omega, rfl, fun j hj => by omega⟩
  exact ⟨k, h2, h1.trans (congrArg some h3)⟩

open Classical in
theorem L31_32 (l : List It) (key : Int) (hl : l.length ≤ 1000) : ∃ a b : Int, L31 (l, key, ()) = some ((a, b, ()), ()) ∧ L32 (l, key, ()) = some ((a, b, ()), ()) := by
  by_cases h : Srt l
  · obtain ⟨k, k1, k2⟩ := Lg31_5_val l key h (by omega)
    obtain ⟨m, m1, m2⟩ := Lg32_4_val l key h (by omega)
    obtain rfl := k1.eq m1
    refine ⟨(k : Int), 0, (F31_eq L51 Lg31_5 l key).trans ?_, (F32_eq L54 Lg32_4 l key).trans ?_⟩
    · rw [L51_val l hl, Option.bind_some, if_pos h, if_neg (by simp), k2]
      rfl
    · rw [L54_val l hl, Option.bind_some, decide_eq_true h, if_neg (by simp), m2]
      rfl
  · refine ⟨0, 9, (F31_eq L51 Lg31_5 l key).trans ?_, (F32_eq L54 Lg32_4 l key).trans ?_⟩
    · rw [L51_val l hl, Option.bind_some, if_neg h, if_pos (by simp)]
    · rw [L54_val l hl, Option.bind_some, decide_eq_false h, if_pos (by simp)]

/-! Selecting. -/
theorem sorted_unique {a b : List It} (ha : Up a) (hb : Up b) (hp : a.Perm b) (k : Nat) (hk : k < a.length) : (a.getD k dI).1 = (b.getD k dI).1 := by
  have h : a.map (·.1) = b.map (·.1) := List.Perm.eq_of_pairwise (le := fun x y => x ≤ y) (fun x y _ _ h1 h2 => Int.le_antisymm h1 h2) (List.pairwise_map.2 ha) (List.pairwise_map.2 hb) (hp.map _)
  have h2 := congrArg (fun l => l.getD k 0) h
  simp only [List.getD_eq_getElem?_getD, List.getElem?_map] at h2 ⊢
  have hk2 : k < b.length := by rw [← hp.length_eq]; exact hk
  rw [List.getElem?_eq_getElem hk, List.getElem?_eq_getElem hk2] at h2 ⊢
  exact h2

theorem insL_perm (x : It) : ∀ l, (insL x l).Perm (x :: l)
  | [] => List.Perm.refl _
  | y :: l => by
    unfold insL
    split
    · exact List.Perm.refl _
    · exact ((insL_perm x l).cons y).trans (List.Perm.swap x y l)

theorem fins_perm : ∀ (b s : List It), (fins s b).Perm (s ++ b)
  | [], s => by simp
  | x :: b, s => by
    show (fins (insL x s) b).Perm _
    refine (fins_perm b _).trans ?_
    exact ((insL_perm x s).append_right b).trans (List.perm_middle.symm)

theorem isort_perm (l : List It) : (isort l).Perm l := fins_perm l []

theorem L27_33 (l : List It) (k : Int) (hl : l.length ≤ 900) : ∃ a b : Int, L27 (l, k, ()) = some ((a, b, ()), ()) ∧ L33 (l, k, ()) = some ((a, b, ()), ()) := by
  by_cases h : k < 0 ∨ k ≥ l.length
  · refine ⟨0, 26, L27_off l k h, (F33_eq L24 l k).trans ?_⟩
    by_cases h0 : k < 0
    · rw [if_pos (by simpa using h0)]
    · rw [if_neg (by simpa using h0), if_pos (by simp; omega)]
  · obtain ⟨n, rfl⟩ : ∃ n : Nat, k = (n : Int) := ⟨k.toNat, by omega⟩
    obtain ⟨l', h1, h2, h3⟩ := L27_val l n (by omega) (by omega)
    refine ⟨_, 0, h1, (F33_eq L24 l (n : Int)).trans ?_⟩
    rw [if_neg (by simp), if_neg (by simp; omega), L24_val l hl, Option.bind_some]
    simp only
    rw [if_pos (by omega), if_pos (by rw [isort_length]; omega), Int.toNat_natCast, sorted_unique h3.up (isort_up l) (h2.trans (isort_perm l).symm) n (by rw [h2.length_eq]; omega)]

theorem K10_val7 : K10 () = some ((true, ()), ()) := by kernel_rfl
noncomputable def law7 : (SV.denL ps7) → Option (rs7).den := F7 K10 L22 L24 L25 L27 L28 L29 L30 L31 L32 L33
theorem law7_ok : CallOK Tryd.prog 7 (mkCall ps7 rs7 law7) := call7 okK10 okL22 okL24 okL25 okL27 okL28 okL29 okL30 okL31 okL32 okL33
theorem law7_true (l : List It) (key k : Int) : law7 (l, key, k, ()) = some ((true, ()), ()) := by
  refine (F7_eq K10 L22 L24 L25 L27 L28 L29 L30 L31 L32 L33 l key k).trans ?_
  by_cases hl : l.length > 200
  · rw [if_pos (by simp; omega), K10_val7]
    rfl
  · rw [if_neg (by simp; omega)]
    obtain ⟨r, hr⟩ := L29_some key k
    obtain ⟨a1, b1, p1, p2⟩ := L31_32 l key (by omega)
    obtain ⟨a2, b2, p3, p4⟩ := L27_33 l k (by omega)
    obtain ⟨a3, b3, p5, p6⟩ := L31_32 (isort l) key (by rw [isort_length]; omega)
    rw [L28_29, hr, Option.bind_some, Option.bind_some, if_neg (by simp), L22_val l (by omega), Option.bind_some, L30_val l (by omega), Option.bind_some, L24_val l (by omega), Option.bind_some]
    simp only
    rw [L25_val (isort l) (by rw [isort_length]; omega), Option.bind_some, if_neg (by simp)]
    simp only [Option.bind_some]
    rw [p1, Option.bind_some, p2, Option.bind_some]
    simp only
    rw [p3, Option.bind_some, p4, Option.bind_some, L22_val (isort l) (by rw [isort_length]; omega), Option.bind_some]
    simp only
    rw [p5, Option.bind_some, p6, Option.bind_some]
    simp only [beq_self_eq_true, if_true]
    rw [K10_val7]
    rfl
end Go.Proofs.Rf
/- What the listed variables give: the table of orders. -/
namespace Go.Proofs.Rf
open Go Go.ChangeShapes Go.WideShapes Go.ChangeAt Go.RowKit

abbrev laid36 : List (String × DataW Unit) := Go.Proofs.YtfabaiiobdhocaaDoor.Rows.sortingMergesRow.laid

theorem cells133 : Tryd.prog.cellsOf 133 = 1 := by kernel_rfl
theorem cells134 : Tryd.prog.cellsOf 134 = 2 := by kernel_rfl
theorem cells132 : Tryd.prog.cellsOf 132 = 1 := by kernel_rfl

set_option maxRecDepth 100000 in
theorem gl36 {W : World} (h : laidMetH Tryd.prog laid36 W) : GlOK W (fun b => b < W.heap.size) := by
  obtain ⟨g, t, cs, fuel, p, hg, ht, hv, hd⟩ := h.funcs (n := "bowline/sorting.orders") (d := .agg [.agg [.iface "func" (.lit (.string [98, 111, 119, 108, 105, 110, 101, 47, 115, 111, 114, 116, 105, 110, 103, 46, 111, 114, 100, 101, 114, 115, 36, 49]))], .agg [.iface "func" (.lit (.string [98, 111, 119, 108, 105, 110, 101, 47, 115, 111, 114, 116, 105, 110, 103, 46, 111, 114, 100, 101, 114, 115, 36, 50]))]])
    (List.mem_cons_of_mem _ (List.mem_cons_of_mem _ (List.mem_cons_of_mem _ (List.mem_cons_self ..))))
  obtain rfl := Option.some.inj ((show Tryd.prog.globalNamed "bowline/sorting.orders" = some 0 by kernel_rfl).symm.trans hg)
  obtain rfl := Option.some.inj ((show (Tryd.prog.globals[0]?).map (·.type) = some 134 by kernel_rfl).symm.trans ht)
  have hd' : DataW.trod (funcToken Tryd.prog) Tryd.prog W 0 (fun _ => true) true fuel 134 cs.toList = some (.agg [.agg [.held [98, 111, 119, 108, 105, 110, 101, 47, 115, 111, 114, 116, 105, 110, 103, 46, 111, 114, 100, 101, 114, 115, 36, 49]], .agg [.held [98, 111, 119, 108, 105, 110, 101, 47, 115, 111, 114, 116, 105, 110, 103, 46, 111, 114, 100, 101, 114, 115, 36, 50]]], p) := hd
  obtain ⟨xs, m, _, hx, hlen, hn, hel⟩ := DataW.trod_array Tryd.underlying134 hd'
  rw [cells134] at hlen
  obtain ⟨c0, c1, hcs⟩ : ∃ c0 c1, cs.toList = [c0, c1] := by
    match hq : cs.toList, hlen with
    | [a, b], _ => exact ⟨a, b, rfl⟩
  obtain ⟨y0, y1, hxs⟩ : ∃ y0 y1, xs = [y0, y1] := by
    match hq : xs, hn with
    | [a, b], _ => exact ⟨a, b, rfl⟩
  subst hxs
  rw [hcs] at hel
  have e0 : DataW.trod (funcToken Tryd.prog) Tryd.prog W 0 (fun _ => true) true m 133 [c0] = some y0 := by
    have := hel 0 (by omega)
    rw [cells133] at this
    exact this
  have e1 : DataW.trod (funcToken Tryd.prog) Tryd.prog W 0 (fun _ => true) true m 133 [c1] = some y1 := by
    have := hel 1 (by omega)
    rw [cells133] at this
    exact this
  obtain ⟨z0, n0, q0, _, r0⟩ := trod_struct1 Tryd.underlying133 e0
  obtain ⟨z1, n1, q1, _, r1⟩ := trod_struct1 Tryd.underlying133 e1
  subst q0; subst q1
  have hx1 := congrArg Prod.fst hx
  simp only [List.map_cons, List.map_nil] at hx1
  injection hx1 with hx1
  injection hx1 with a0 hx1
  injection hx1 with a1 _
  injection a0 with a0
  injection a0 with a0 _
  injection a1 with a1
  injection a1 with a1 _
  have r0 : DataW.trod (funcToken Tryd.prog) Tryd.prog W 0 (fun _ => true) true n0 132 [c0] = some z0 := by
    have := r0
    rw [show (Tryd.prog.cellsOf _) = 1 from cells132] at this
    exact this
  have r1 : DataW.trod (funcToken Tryd.prog) Tryd.prog W 0 (fun _ => true) true n1 132 [c1] = some z1 := by
    have := r1
    rw [show (Tryd.prog.cellsOf _) = 1 from cells132] at this
    exact this
  obtain ⟨z0, zq0⟩ := z0
  obtain ⟨z1, zq1⟩ := z1
  simp only at a0 a1
  subst a0; subst a1
  have f0 := Go.func_of_trod (f0 := 123) Tryd.underlying132 (by kernel_rfl) r0
  have f1 := Go.func_of_trod (f0 := 124) Tryd.underlying132 (by kernel_rfl) r1
  subst f0; subst f1
  intro g us hgl
  unfold glob at hgl
  split at hgl
  · injection hgl with hgl
    subst hgl
    unfold World.var? at hv
    rw [show Tryd.prog.globalNamed "bowline/sorting.orders" = some 0 by kernel_rfl] at hv
    simp only [Option.bind_some] at hv
    split at hv
    · rename_i cs' e' fz hh
      injection hv with hv
      subst hv
      have hcs : cs' = List.toArray [.func (.func 123) #[] #[], .func (.func 124) #[] #[]] := by
        apply Array.ext'
        simpa using hcs
      refine ⟨(Array.getElem?_eq_some_iff.1 hh).1, by simp, e', fz, by rw [hh, hcs]⟩
    · cases hv
  · cases hgl
end Go.Proofs.Rf
