/- Texts put together: Q12d, EQD0, ShAtoi, At12, Ld12, Md1, Md2, Kd12, Gg, Gh, Md3, Gx12. -/
import Derived.Test.YtdecfjlhidgceaaDoorTy3
import Derived.Shelf.LaysC
import Derived.Shelf.Strconv.AtoiAll
import Derived.Test.YtdecfjlhidgceaaDoorProg
import Derived.Below
import Derived.Laws.RangeAny
import Derived.Laws.RangeString
import Derived.WalkKit
import Derived.ProofKit
import Derived.OpenShut
import Derived.ChangeOld
import Derived.ChangeArms
import Derived.Carry
import Derived.Test.YtdecfjlhidgceaaDoorRows
import Derived.LaidMore
import Derived.LaidSub
import Derived.LaidLaws
import Derived.Lib.LaidU8
import Derived.Stop.Joined
set_option linter.unusedVariables false
namespace Go.Proofs.Rf
open Go Go.RowKit
abbrev XB := (Int × (Int × (Bool × Bool))) × List (Int × (Int × (Int × Int)))
abbrev XR := (Int × (Int × (Bool × Bool))) × List (Int × (Int × ((Int × Int) × Int)))
abbrev z4 : Int × Int × Int × Int := (0, 0, 0, 0)
abbrev z5 : Int × Int × (Int × Int) × Int := (0, 0, (0, 0), 0)
abbrev tb : Tab := tabOf tyTab
theorem mixed : Tryd.prog.follows .mixedOrders = true := by kernel_rfl
abbrev tI : Ty := .int .i64
abbrev tS : Ty := .str
abbrev tA : Ty := .pr tI tI
abbrev tT : Ty := .pr tI (.pr tI (.pr .bool .bool))
abbrev tC : Ty := .pr tI (.pr (.int .u8) tA)
abbrev El56 := Int × Int × Int × Int × Int
abbrev psh56 : Shape := ⟨[(1, .pt 0 0)], [.box 32 [.d false tI, .d false tI]]⟩
abbrev z6y : Shape := ⟨[(1, .pt 0 0), (4, .d false tI)], [.box 32 [.d false tI, .d false tI]]⟩
abbrev Dt56 := psh56.den → Option (List El56)
def avs56 (e : El56) : List AV := [.d tI e.1, .ag [.d tI e.2.1, .d (.int .u8) e.2.2.1, .d tI e.2.2.2.1, .d tI e.2.2.2.2]]
def z6C (e : El56) : List Value := [.int .i64 e.1, .agg #[.int .i64 e.2.1, .int .u8 e.2.2.1, .int .i64 e.2.2.2.1, .int .i64 e.2.2.2.2]]
abbrev cap56 (D : Dt56) : (Nat → Blk) → List AV → Option (List El56) := capG psh56 D
theorem rel56 (w : World) (ok : Nat → Prop) (ι : Nat → Option Value) (e : El56) : RelL w ok ι (avs56 e) (z6C e) := by
 refine z0a.2 ⟨_, _, rfl, z0j.2 rfl, z0a.2 ⟨_, _, rfl, ?_, z0b.2 rfl⟩⟩
 simp only [RelV]
 exact ⟨[.int .i64 e.2.1, .int .u8 e.2.2.1, .int .i64 e.2.2.2.1, .int .i64 e.2.2.2.2], rfl, z0a.2 ⟨_, _, rfl, z0j.2 rfl, z0a.2 ⟨_, _, rfl, z0j.2 rfl, z0a.2 ⟨_, _, rfl, z0j.2 rfl, z0a.2 ⟨_, _, rfl, z0j.2 rfl, z0b.2 rfl⟩⟩⟩⟩⟩
def elOf56 : List AV → Option El56
 | [.d (.int .i64) i, .ag [.d (.int .i64) k, .d (.int .u8) n, .d (.int .i64) b, .d (.int .i64) o]] => some (i, k, n, b, o)
 | _ => none
theorem el56 (args : List AV) (e : El56) (w : World) (ok : Nat → Prop) (ι : Nat → Option Value) (vals : List Value) (h : elOf56 args = some e) (hr : RelL w ok ι args vals) : vals = z6C e := by
 unfold elOf56 at h
 split at h
 ·injection h with h
  subst h
  obtain ⟨v, vr, e1, h1, h2⟩ := z0a.1 hr
  obtain ⟨v', vr', e2, h3, h4⟩ := z0a.1 h2
  simp only [RelV] at h3
  obtain ⟨us, e3, h5⟩ := h3
  obtain ⟨u1, r1, f1, g1, h5⟩ := z0a.1 h5
  obtain ⟨u2, r2, f2, g2, h5⟩ := z0a.1 h5
  obtain ⟨u3, r3, f3, g3, h5⟩ := z0a.1 h5
  obtain ⟨u4, r4, f4, g4, h5⟩ := z0a.1 h5
  rw [z0b.1 h5] at f4
  subst f4; subst f3; subst f2; subst f1
  rw [e1, e2, z0j.1 h1, e3, z0b.1 h4, z0j.1 g1, z0j.1 g2, z0j.1 g3, z0j.1 g4]
  rfl
 ·cases h
noncomputable def B56 : psh56.den → Option z6y.den := startY tb (lookL []) (z0K (upTo 16) (z0t 0 2)) (lookL []) (some (preOf Tryd.f56)) z6y psh56
noncomputable def Y56 : z6y.den → Option (RY z6y.den El56) := stepY tb (lookL []) (z0K (upTo 16) (z0t 0 2)) (lookL []) 3 6 z6y z6y elOf56 0 (z2d Tryd.f56 1)
theorem it56 {D : Dt56} (hD : Coll B56 Y56 D) : z4D Tryd.prog 56 z6C (cap56 D) :=
 iterOK_at mixed z0w (Δ := []) trivial ⟨Tryd.func56, by kernel_rfl, by kernel_rfl, by kernel_rfl, by kernel_rfl, by kernel_rfl, by kernel_rfl, by kernel_rfl, by kernel_rfl, by kernel_rfl, by kernel_rfl, by kernel_rfl, by kernel_rfl, by kernel_rfl⟩ el56
  (z0d (Λ := []) (cs := []) (by kernel_rfl) (by kernel_rfl) (by kernel_rfl) trivial) (fun p hp => by injection hp with hp; subst hp; exact z0d (Λ := []) (cs := []) (by kernel_rfl) (by kernel_rfl) (by kernel_rfl) trivial) hD
abbrev ps39 : List SV := [.d false .str]
abbrev rs39 : Shape := ⟨[(0, .d false tI), (1, .d false .ic)], []⟩
abbrev TF39 := SV.denL ps39 → Option rs39.den
def digs (s : List UInt8) : Bool := s.all fun c => Nat.ble 48 c.toNat && Nat.ble c.toNat 57
def numOf (s : List UInt8) : Nat := s.foldl (fun n c => n * 10 + (c.toNat - 48)) 0
def F39 : SV.denL ps39 → Option rs39.den := fun x => if (digs x.1 && Nat.blt 0 x.1.length && Nat.ble x.1.length 1000) = true then (if numOf x.1 < 9223372036854775808 then some (((numOf x.1 : Int), true, ()), ()) else some ((9223372036854775807, false, ()), ())) else none
abbrev ps38 : List SV := []
abbrev rs38 : Shape := ⟨[(0, .mp 0)], [.map tS false tI]⟩
abbrev TF38 := SV.denL ps38 → Option rs38.den
noncomputable def F38 : TF38 := z0M tb [] [] Tryd.f38 ps38 rs38
theorem call38 : z0c Tryd.prog 38 (mkCall ps38 rs38 (F38)) :=
 z0k mixed z0w (Δ := []) trivial ⟨Tryd.func38, rfl, by kernel_rfl, by kernel_rfl, by kernel_rfl, by kernel_rfl⟩ rfl (z0d (Λ := []) (cs := []) (by kernel_rfl) (by kernel_rfl) (by kernel_rfl) trivial)
abbrev ps19 : List SV := [.d false tS]
abbrev rs19 : Shape := ⟨[(0, .d false tI), (1, .d false .bool)], []⟩
abbrev TF19 := SV.denL ps19 → Option rs19.den
abbrev z3k : Shape := ⟨[(0, .d false tS), (42, .pt 0 0)], [.it]⟩
abbrev w19_7 : List Way := [(none, ⟨[(2, .d false tI), (3, .d false .bool)], []⟩), (some 0, ⟨[(0, .d false tS)], []⟩)]
noncomputable def S19_7 : z3k.den → Option (z3k.den ⊕ denX w19_7) := z2H tb [] [] (upTo 65) Tryd.f19 7 z3k w19_7
noncomputable def F19 (F38 : TF38) (F39 : TF39) (g19_7 : z3k.den → Option (denX w19_7)) : TF19 := z0M tb [(38, mkCall ps38 rs38 F38), (39, mkCall ps39 rs39 F39)] [(7, lp z3k w19_7 g19_7)] Tryd.f19 ps19 rs19
theorem call19 {F38 : TF38} {F39 : TF39} {g19_7 : z3k.den → Option (denX w19_7)} (h38 : z0c Tryd.prog 38 (mkCall ps38 rs38 F38)) (h39 : z0c Tryd.prog 39 (mkCall ps39 rs39 F39)) (hg19_7 : Lim (S19_7) g19_7) : z0c Tryd.prog 19 (mkCall ps19 rs19 (F19 F38 F39 g19_7)) :=
 z0k mixed z0w (Δ := [(38, mkCall ps38 rs38 F38), (39, mkCall ps39 rs39 F39)]) ⟨.inl h38, .inl h39, trivial⟩ ⟨Tryd.func19, rfl, by kernel_rfl, by kernel_rfl, by kernel_rfl, by kernel_rfl⟩ rfl (z0d (cs := [.loop (z2d Tryd.f19 7)]) (by kernel_rfl) (by kernel_rfl) (by kernel_rfl) ⟨z0R mixed z0w (Δ := []) trivial hg19_7 (z0d (Λ := []) (cs := []) (by kernel_rfl) (by kernel_rfl) (by kernel_rfl) trivial), trivial⟩)
abbrev ps5 : List SV := [.d false tS]
abbrev rs5 : Shape := ⟨[(0, .d false tI), (1, .d false tI)], []⟩
abbrev TF5 := SV.denL ps5 → Option rs5.den
noncomputable def F5 (F19 : TF19) : TF5 := z0M tb [(19, mkCall ps19 rs19 F19)] [] Tryd.f5 ps5 rs5
theorem call5 {F19 : TF19} (h19 : z0c Tryd.prog 19 (mkCall ps19 rs19 F19)) : z0c Tryd.prog 5 (mkCall ps5 rs5 (F5 F19)) :=
 z0k mixed z0w (Δ := [(19, mkCall ps19 rs19 F19)]) ⟨.inl h19, trivial⟩ ⟨Tryd.func5, rfl, by kernel_rfl, by kernel_rfl, by kernel_rfl, by kernel_rfl⟩ rfl (z0d (Λ := []) (cs := []) (by kernel_rfl) (by kernel_rfl) (by kernel_rfl) trivial)
abbrev ps20 : List SV := [.d false tI]
abbrev rs20 : Shape := ⟨[(0, .d false tI)], []⟩
abbrev TF20 := SV.denL ps20 → Option rs20.den
abbrev z3C : Shape := ⟨[(0, .d false tI), (3, .d false tI)], []⟩
abbrev w20_2 : List Way := [(some 0, ⟨[(3, .d false tI)], []⟩)]
noncomputable def S20_2 : z3C.den → Option (z3C.den ⊕ denX w20_2) := z2H tb [] [] (upTo 10) Tryd.f20 2 z3C w20_2
noncomputable def F20 (g20_2 : z3C.den → Option (denX w20_2)) : TF20 := z0M tb [] [(2, lp z3C w20_2 g20_2)] Tryd.f20 ps20 rs20
theorem call20 {g20_2 : z3C.den → Option (denX w20_2)} (hg20_2 : Lim (S20_2) g20_2) : z0c Tryd.prog 20 (mkCall ps20 rs20 (F20 g20_2)) :=
 z0k mixed z0w (Δ := []) trivial ⟨Tryd.func20, rfl, by kernel_rfl, by kernel_rfl, by kernel_rfl, by kernel_rfl⟩ rfl (z0d (cs := [.loop (z2d Tryd.f20 2)]) (by kernel_rfl) (by kernel_rfl) (by kernel_rfl) ⟨z0R mixed z0w (Δ := []) trivial hg20_2 (z0d (Λ := []) (cs := []) (by kernel_rfl) (by kernel_rfl) (by kernel_rfl) trivial), trivial⟩)
abbrev ps6 : List SV := [.d false tS]
abbrev rs6 : Shape := ⟨[(0, .d false tI), (1, .d false tI)], []⟩
abbrev TF6 := SV.denL ps6 → Option rs6.den
noncomputable def F6 (F5 : TF5) (F20 : TF20) : TF6 := z0M tb [(5, mkCall ps5 rs5 F5), (20, mkCall ps20 rs20 F20)] [] Tryd.f6 ps6 rs6
theorem call6 {F20 : TF20} {F5 : TF5} (h20 : z0c Tryd.prog 20 (mkCall ps20 rs20 F20)) (h5 : z0c Tryd.prog 5 (mkCall ps5 rs5 F5)) : z0c Tryd.prog 6 (mkCall ps6 rs6 (F6 F5 F20)) :=
 z0k mixed z0w (Δ := [(5, mkCall ps5 rs5 F5), (20, mkCall ps20 rs20 F20)]) ⟨.inl h5, .inl h20, trivial⟩ ⟨Tryd.func6, rfl, by kernel_rfl, by kernel_rfl, by kernel_rfl, by kernel_rfl⟩ rfl (z0d (Λ := []) (cs := []) (by kernel_rfl) (by kernel_rfl) (by kernel_rfl) trivial)
abbrev ps9 : List SV := []
abbrev rs9 : Shape := ⟨[(0, .pt 0 0)], [.box 53 [.ro 1, .d false tI], .nr tT tC 77 73]⟩
abbrev TF9 := SV.denL ps9 → Option rs9.den
noncomputable def F9 : TF9 := z0M tb [] [] Tryd.f9 ps9 rs9
theorem call9 : z0c Tryd.prog 9 (mkCall ps9 rs9 (F9)) :=
 z0k mixed z0w (Δ := []) trivial ⟨Tryd.func9, rfl, by kernel_rfl, by kernel_rfl, by kernel_rfl, by kernel_rfl⟩ rfl (z0d (Λ := []) (cs := []) (by kernel_rfl) (by kernel_rfl) (by kernel_rfl) trivial)
abbrev ps22 : List SV := [.d false (.sl tI)]
abbrev rs22 : Shape := ⟨[(0, .d false tI)], []⟩
abbrev TF22 := SV.denL ps22 → Option rs22.den
abbrev z5b : Shape := ⟨[(5, .d false (.sl tI)), (6, .d false tI), (7, .d false tI)], []⟩
abbrev w22_2 : List Way := [(none, ⟨[(2, .d false tI)], []⟩), (some 0, ⟨[], []⟩)]
noncomputable def S22_2 : z5b.den → Option (z5b.den ⊕ denX w22_2) := z2H tb [] [] (upTo 15) Tryd.f22 2 z5b w22_2
noncomputable def F22 (g22_2 : z5b.den → Option (denX w22_2)) : TF22 := z0M tb [] [(2, lp z5b w22_2 g22_2)] Tryd.f22 ps22 rs22
theorem call22 {g22_2 : z5b.den → Option (denX w22_2)} (hg22_2 : Lim (S22_2) g22_2) : z0c Tryd.prog 22 (mkCall ps22 rs22 (F22 g22_2)) :=
 z0k mixed z0w (Δ := []) trivial ⟨Tryd.func22, rfl, by kernel_rfl, by kernel_rfl, by kernel_rfl, by kernel_rfl⟩ rfl (z0d (cs := [.loop (z2d Tryd.f22 2)]) (by kernel_rfl) (by kernel_rfl) (by kernel_rfl) ⟨z0R mixed z0w (Δ := []) trivial hg22_2 (z0d (Λ := []) (cs := []) (by kernel_rfl) (by kernel_rfl) (by kernel_rfl) trivial), trivial⟩)
abbrev ps23 : List SV := [.d false .bool, .d false tI]
abbrev rs23 : Shape := ⟨[(0, .d false tI)], []⟩
abbrev TF23 := SV.denL ps23 → Option rs23.den
noncomputable def F23 : TF23 := z0M tb [] [] Tryd.f23 ps23 rs23
theorem call23 : z0c Tryd.prog 23 (mkCall ps23 rs23 (F23)) :=
 z0k mixed z0w (Δ := []) trivial ⟨Tryd.func23, rfl, by kernel_rfl, by kernel_rfl, by kernel_rfl, by kernel_rfl⟩ rfl (z0d (Λ := []) (cs := []) (by kernel_rfl) (by kernel_rfl) (by kernel_rfl) trivial)
abbrev ps51 : List SV := [.d false (.sl tI), .d false tI]
abbrev rs51 : Shape := ⟨[(0, .d false tI)], []⟩
abbrev TF51 := SV.denL ps51 → Option rs51.den
abbrev z4V : Shape := ⟨[(0, .d false (.sl tI)), (1, .d false tI), (7, .d false tI), (8, .d false tI)], []⟩
abbrev w51_2 : List Way := [(none, ⟨[(4, .d false tI)], []⟩), (some 0, ⟨[], []⟩)]
noncomputable def S51_2 : z4V.den → Option (z4V.den ⊕ denX w51_2) := z2H tb [] [] (upTo 19) Tryd.f51 2 z4V w51_2
noncomputable def F51 (g51_2 : z4V.den → Option (denX w51_2)) : TF51 := z0M tb [] [(2, lp z4V w51_2 g51_2)] Tryd.f51 ps51 rs51
theorem call51 {g51_2 : z4V.den → Option (denX w51_2)} (hg51_2 : Lim (S51_2) g51_2) : z0c Tryd.prog 51 (mkCall ps51 rs51 (F51 g51_2)) :=
 z0k mixed z0w (Δ := []) trivial ⟨Tryd.func51, rfl, by kernel_rfl, by kernel_rfl, by kernel_rfl, by kernel_rfl⟩ rfl (z0d (cs := [.loop (z2d Tryd.f51 2)]) (by kernel_rfl) (by kernel_rfl) (by kernel_rfl) ⟨z0R mixed z0w (Δ := []) trivial hg51_2 (z0d (Λ := []) (cs := []) (by kernel_rfl) (by kernel_rfl) (by kernel_rfl) trivial), trivial⟩)
abbrev ps41 : List SV := [.d false (.sl tI), .d false tI]
abbrev rs41 : Shape := ⟨[(0, .d false .bool)], []⟩
abbrev TF41 := SV.denL ps41 → Option rs41.den
noncomputable def F41 (F51 : TF51) : TF41 := z0M tb [(51, mkCall ps51 rs51 F51)] [] Tryd.f41 ps41 rs41
theorem call41 {F51 : TF51} (h51 : z0c Tryd.prog 51 (mkCall ps51 rs51 F51)) : z0c Tryd.prog 41 (mkCall ps41 rs41 (F41 F51)) :=
 z0k mixed z0w (Δ := [(51, mkCall ps51 rs51 F51)]) ⟨.inl h51, trivial⟩ ⟨Tryd.func41, rfl, by kernel_rfl, by kernel_rfl, by kernel_rfl, by kernel_rfl⟩ rfl (z0d (Λ := []) (cs := []) (by kernel_rfl) (by kernel_rfl) (by kernel_rfl) trivial)
abbrev ps24 : List SV := [.d false tI]
abbrev rs24 : Shape := ⟨[(0, .d false .bool)], []⟩
abbrev TF24 := SV.denL ps24 → Option rs24.den
noncomputable def F24 (F41 : TF41) : TF24 := z0M tb [(41, mkCall ps41 rs41 F41)] [] Tryd.f24 ps24 rs24
theorem call24 {F41 : TF41} (h41 : z0c Tryd.prog 41 (mkCall ps41 rs41 F41)) : z0c Tryd.prog 24 (mkCall ps24 rs24 (F24 F41)) :=
 z0k mixed z0w (Δ := [(41, mkCall ps41 rs41 F41)]) ⟨.inl h41, trivial⟩ ⟨Tryd.func24, rfl, by kernel_rfl, by kernel_rfl, by kernel_rfl, by kernel_rfl⟩ rfl (z0d (Λ := []) (cs := []) (by kernel_rfl) (by kernel_rfl) (by kernel_rfl) trivial)
abbrev ps25 : List SV := []
abbrev rs25 : Shape := ⟨[(0, .d true tA)], []⟩
abbrev TF25 := SV.denL ps25 → Option rs25.den
noncomputable def F25 : TF25 := z0M tb [] [] Tryd.f25 ps25 rs25
theorem call25 : z0c Tryd.prog 25 (mkCall ps25 rs25 (F25)) :=
 z0k mixed z0w (Δ := []) trivial ⟨Tryd.func25, rfl, by kernel_rfl, by kernel_rfl, by kernel_rfl, by kernel_rfl⟩ rfl (z0d (Λ := []) (cs := []) (by kernel_rfl) (by kernel_rfl) (by kernel_rfl) trivial)
abbrev ps37 : List SV := [.d false tI]
abbrev rs37 : Shape := ⟨[(0, .d false tI)], []⟩
abbrev TF37 := SV.denL ps37 → Option rs37.den
noncomputable def F37 : TF37 := z0M tb [] [] Tryd.f37 ps37 rs37
theorem call37 : z0c Tryd.prog 37 (mkCall ps37 rs37 (F37)) :=
 z0k mixed z0w (Δ := []) trivial ⟨Tryd.func37, rfl, by kernel_rfl, by kernel_rfl, by kernel_rfl, by kernel_rfl⟩ rfl (z0d (Λ := []) (cs := []) (by kernel_rfl) (by kernel_rfl) (by kernel_rfl) trivial)
abbrev z5m : Shape := ⟨[(0, .pt 0 0), (1, .d true (.pr tI (.pr tI .bool))), (2, .d false tI)], [.box 53 [.ro 1, .d false tI], .nr tT tC 77 73]⟩
abbrev m26 : List Nat := [0]
abbrev rs26 : Shape := ⟨[(0, .pt 0 0), (1, .d true tA), (2, .d false tI)], [.box 53 [.ro 1, .d false tI], .nr tT tC 77 73]⟩
abbrev TF26 := z5m.den → Option rs26.den
noncomputable def F26 (F25 : TF25) (F37 : TF37) : TF26 := z4v tb [(25, mkCall ps25 rs25 F25), (37, mkCall ps37 rs37 F37)] [] Tryd.f26 z5m rs26 1
theorem call26 {F25 : TF25} {F37 : TF37} (h25 : z0c Tryd.prog 25 (mkCall ps25 rs25 F25)) (h37 : z0c Tryd.prog 37 (mkCall ps37 rs37 F37)) : z0c Tryd.prog 26 (mkCallB z5m rs26 m26 1 (F26 F25 F37)) :=
 z1Z mixed z0w (Δ := [(25, mkCall ps25 rs25 F25), (37, mkCall ps37 rs37 F37)]) ⟨.inl h25, .inl h37, trivial⟩ ⟨Tryd.func26, rfl, by kernel_rfl, by kernel_rfl, by kernel_rfl, by kernel_rfl, by kernel_rfl, by kernel_rfl, by kernel_rfl, by kernel_rfl, by kernel_rfl⟩ rfl (z0d (Λ := []) (cs := []) (by kernel_rfl) (by kernel_rfl) (by kernel_rfl) trivial)
abbrev psh10 : Shape := ⟨[(0, .pt 0 0), (1, .d false tI), (2, .d false tI), (3, .d false tI), (4, .d false .bool)], [.box 53 [.ro 1, .d false tI], .nr tT tC 77 73]⟩
abbrev m10 : List Nat := [0]
abbrev rs10 : Shape := ⟨[(0, .pt 0 0), (1, .d true tA), (2, .d false tI)], [.box 53 [.ro 1, .d false tI], .nr tT tC 77 73]⟩
abbrev TF10 := psh10.den → Option rs10.den
noncomputable def F10 (F22 : TF22) (F23 : TF23) (F24 : TF24) (F25 : TF25) (F26 : TF26) : TF10 := z4v tb [(22, mkCall ps22 rs22 F22), (23, mkCall ps23 rs23 F23), (24, mkCall ps24 rs24 F24), (25, mkCall ps25 rs25 F25), (26, mkCallB z5m rs26 m26 1 F26)] [] Tryd.f10 psh10 rs10 1
theorem call10 {F22 : TF22} {F23 : TF23} {F24 : TF24} {F25 : TF25} {F26 : TF26} (h22 : z0c Tryd.prog 22 (mkCall ps22 rs22 F22)) (h23 : z0c Tryd.prog 23 (mkCall ps23 rs23 F23)) (h24 : z0c Tryd.prog 24 (mkCall ps24 rs24 F24)) (h25 : z0c Tryd.prog 25 (mkCall ps25 rs25 F25)) (h26 : z0c Tryd.prog 26 (mkCallB z5m rs26 m26 1 F26)) : z0c Tryd.prog 10 (mkCallB psh10 rs10 m10 1 (F10 F22 F23 F24 F25 F26)) :=
 z1Z mixed z0w (Δ := [(22, mkCall ps22 rs22 F22), (23, mkCall ps23 rs23 F23), (24, mkCall ps24 rs24 F24), (25, mkCall ps25 rs25 F25), (26, mkCallB z5m rs26 m26 1 F26)]) ⟨.inl h22, .inl h23, .inl h24, .inl h25, .inl h26, trivial⟩ ⟨Tryd.func10, rfl, by kernel_rfl, by kernel_rfl, by kernel_rfl, by kernel_rfl, by kernel_rfl, by kernel_rfl, by kernel_rfl, by kernel_rfl, by kernel_rfl⟩ rfl (z0d (Λ := []) (cs := []) (by kernel_rfl) (by kernel_rfl) (by kernel_rfl) trivial)
abbrev ps11 : List SV := [.d false tI, .ve [.d false tI, .d false tI]]
abbrev rs11 : Shape := ⟨[(0, .d true tA)], []⟩
abbrev TF11 := SV.denL ps11 → Option rs11.den
noncomputable def F11 : TF11 := z0M tb [] [] Tryd.f11 ps11 rs11
theorem call11 : z0c Tryd.prog 11 (mkCall ps11 rs11 (F11)) :=
 z0k mixed z0w (Δ := []) trivial ⟨Tryd.func11, rfl, by kernel_rfl, by kernel_rfl, by kernel_rfl, by kernel_rfl⟩ rfl (z0d (Λ := []) (cs := []) (by kernel_rfl) (by kernel_rfl) (by kernel_rfl) trivial)
abbrev ps27 : List SV := [.d false tS, .d true tA, .d false .bool]
abbrev rs27 : Shape := ⟨[(0, .d true (.pr tA (.pr tI (.pr tI .bool)))), (1, .d false .bool)], []⟩
abbrev TF27 := SV.denL ps27 → Option rs27.den
noncomputable def F27 (F5 : TF5) (F20 : TF20) : TF27 := z0M tb [(5, mkCall ps5 rs5 F5), (20, mkCall ps20 rs20 F20)] [] Tryd.f27 ps27 rs27
theorem call27 {F20 : TF20} {F5 : TF5} (h20 : z0c Tryd.prog 20 (mkCall ps20 rs20 F20)) (h5 : z0c Tryd.prog 5 (mkCall ps5 rs5 F5)) : z0c Tryd.prog 27 (mkCall ps27 rs27 (F27 F5 F20)) :=
 z0k mixed z0w (Δ := [(5, mkCall ps5 rs5 F5), (20, mkCall ps20 rs20 F20)]) ⟨.inl h5, .inl h20, trivial⟩ ⟨Tryd.func27, rfl, by kernel_rfl, by kernel_rfl, by kernel_rfl, by kernel_rfl⟩ rfl (z0d (Λ := []) (cs := []) (by kernel_rfl) (by kernel_rfl) (by kernel_rfl) trivial)
abbrev ps42 : List SV := []
abbrev rs42 : Shape := ⟨[(0, .d true (.pr (.pr tI (.fk 52)) (.pr (.pr tI (.fk 53)) (.pr (.pr tI (.fk 54)) (.pr tI (.fk 55))))))], []⟩
abbrev TF42 := SV.denL ps42 → Option rs42.den
noncomputable def F42 : TF42 := z0M tb [] [] Tryd.f42 ps42 rs42
theorem call42 : z0c Tryd.prog 42 (mkCall ps42 rs42 (F42)) :=
 z0k mixed z0w (Δ := []) trivial ⟨Tryd.func42, rfl, by kernel_rfl, by kernel_rfl, by kernel_rfl, by kernel_rfl⟩ rfl (z0d (Λ := []) (cs := []) (by kernel_rfl) (by kernel_rfl) (by kernel_rfl) trivial)
abbrev ps34 : List SV := [.ve [.d false (.sl (.pr tT (.sl tC))), .d false tI], .d true tA]
abbrev rs34 : Shape := ⟨[(0, .d false .bool)], []⟩
abbrev TF34 := SV.denL ps34 → Option rs34.den
noncomputable def F34 (F25 : TF25) : TF34 := z0M tb [(25, mkCall ps25 rs25 F25)] [] Tryd.f34 ps34 rs34
theorem call34 {F25 : TF25} (h25 : z0c Tryd.prog 25 (mkCall ps25 rs25 F25)) : z0c Tryd.prog 34 (mkCall ps34 rs34 (F34 F25)) :=
 z0k mixed z0w (Δ := [(25, mkCall ps25 rs25 F25)]) ⟨.inl h25, trivial⟩ ⟨Tryd.func34, rfl, by kernel_rfl, by kernel_rfl, by kernel_rfl, by kernel_rfl⟩ rfl (z0d (Λ := []) (cs := []) (by kernel_rfl) (by kernel_rfl) (by kernel_rfl) trivial)
abbrev ps52 : List SV := [.ve [.d false (.sl (.pr tT (.sl tC))), .d false tI], .d true (.pr tA (.pr tI (.pr tI .bool)))]
abbrev rs52 : Shape := ⟨[(0, .d false .bool)], []⟩
abbrev TF52 := SV.denL ps52 → Option rs52.den
noncomputable def F52 (F25 : TF25) (F34 : TF34) : TF52 := z0M tb [(25, mkCall ps25 rs25 F25), (34, mkCall ps34 rs34 F34)] [] Tryd.f52 ps52 rs52
theorem call52 {F25 : TF25} {F34 : TF34} (h25 : z0c Tryd.prog 25 (mkCall ps25 rs25 F25)) (h34 : z0c Tryd.prog 34 (mkCall ps34 rs34 F34)) : z0c Tryd.prog 52 (mkCall ps52 rs52 (F52 F25 F34)) :=
 z0k mixed z0w (Δ := [(25, mkCall ps25 rs25 F25), (34, mkCall ps34 rs34 F34)]) ⟨.inl h25, .inl h34, trivial⟩ ⟨Tryd.func52, rfl, by kernel_rfl, by kernel_rfl, by kernel_rfl, by kernel_rfl⟩ rfl (z0d (Λ := []) (cs := []) (by kernel_rfl) (by kernel_rfl) (by kernel_rfl) trivial)
abbrev ps53 : List SV := [.ve [.d false (.sl (.pr tT (.sl tC))), .d false tI], .d true (.pr tA (.pr tI (.pr tI .bool)))]
abbrev rs53 : Shape := ⟨[(0, .d false .bool)], []⟩
abbrev TF53 := SV.denL ps53 → Option rs53.den
noncomputable def F53 : TF53 := z0M tb [] [] Tryd.f53 ps53 rs53
theorem call53 : z0c Tryd.prog 53 (mkCall ps53 rs53 (F53)) :=
 z0k mixed z0w (Δ := []) trivial ⟨Tryd.func53, rfl, by kernel_rfl, by kernel_rfl, by kernel_rfl, by kernel_rfl⟩ rfl (z0d (Λ := []) (cs := []) (by kernel_rfl) (by kernel_rfl) (by kernel_rfl) trivial)
abbrev ps54 : List SV := [.ve [.d false (.sl (.pr tT (.sl tC))), .d false tI], .d true (.pr tA (.pr tI (.pr tI .bool)))]
abbrev rs54 : Shape := ⟨[(0, .d false .bool)], []⟩
abbrev TF54 := SV.denL ps54 → Option rs54.den
noncomputable def F54 : TF54 := z0M tb [] [] Tryd.f54 ps54 rs54
theorem call54 : z0c Tryd.prog 54 (mkCall ps54 rs54 (F54)) :=
 z0k mixed z0w (Δ := []) trivial ⟨Tryd.func54, rfl, by kernel_rfl, by kernel_rfl, by kernel_rfl, by kernel_rfl⟩ rfl (z0d (Λ := []) (cs := []) (by kernel_rfl) (by kernel_rfl) (by kernel_rfl) trivial)
abbrev ps55 : List SV := [.ve [.d false (.sl (.pr tT (.sl tC))), .d false tI], .d true (.pr tA (.pr tI (.pr tI .bool)))]
abbrev rs55 : Shape := ⟨[(0, .d false .bool)], []⟩
abbrev TF55 := SV.denL ps55 → Option rs55.den
noncomputable def F55 : TF55 := z0M tb [] [] Tryd.f55 ps55 rs55
theorem call55 : z0c Tryd.prog 55 (mkCall ps55 rs55 (F55)) :=
 z0k mixed z0w (Δ := []) trivial ⟨Tryd.func55, rfl, by kernel_rfl, by kernel_rfl, by kernel_rfl, by kernel_rfl⟩ rfl (z0d (Λ := []) (cs := []) (by kernel_rfl) (by kernel_rfl) (by kernel_rfl) trivial)
abbrev ps28 : List SV := [.ve [.d false (.sl (.pr tT (.sl tC))), .d false tI], .d true (.pr tA (.pr tI (.pr tI .bool)))]
abbrev rs28 : Shape := ⟨[(0, .d false tI)], []⟩
abbrev TF28 := SV.denL ps28 → Option rs28.den
abbrev z5a : Shape := ⟨[(0, .ve [.d false (.sl (.pr tT (.sl tC))), .d false tI]), (3, .pt 0 0), (10, .d true (.pr (.pr tI (.fk 52)) (.pr (.pr tI (.fk 53)) (.pr (.pr tI (.fk 54)) (.pr tI (.fk 55)))))), (11, .d false tI)], [.box 62 [.d false tI, .d false tI, .d false tI, .d false tI, .d false .bool]]⟩
abbrev w28_4 : List Way := [(none, ⟨[(4, .d false tI)], []⟩), (some 0, ⟨[], []⟩)]
noncomputable def S28_4 (F52 : TF52) (F53 : TF53) (F54 : TF54) (F55 : TF55) : z5a.den → Option (z5a.den ⊕ denX w28_4) := z2H tb [(52, mkCall ps52 rs52 F52), (53, mkCall ps53 rs53 F53), (54, mkCall ps54 rs54 F54), (55, mkCall ps55 rs55 F55)] [] (upTo 22) Tryd.f28 4 z5a w28_4
noncomputable def F28 (F42 : TF42) (g28_4 : z5a.den → Option (denX w28_4)) : TF28 := z0M tb [(42, mkCall ps42 rs42 F42)] [(4, lp z5a w28_4 g28_4)] Tryd.f28 ps28 rs28
theorem call28 {F42 : TF42} {F52 : TF52} {F53 : TF53} {F54 : TF54} {F55 : TF55} {g28_4 : z5a.den → Option (denX w28_4)} (h42 : z0c Tryd.prog 42 (mkCall ps42 rs42 F42)) (h52 : z0c Tryd.prog 52 (mkCall ps52 rs52 F52)) (h53 : z0c Tryd.prog 53 (mkCall ps53 rs53 F53)) (h54 : z0c Tryd.prog 54 (mkCall ps54 rs54 F54)) (h55 : z0c Tryd.prog 55 (mkCall ps55 rs55 F55)) (hg28_4 : Lim (S28_4 F52 F53 F54 F55) g28_4) : z0c Tryd.prog 28 (mkCall ps28 rs28 (F28 F42 g28_4)) :=
 z0k mixed z0w (Δ := [(42, mkCall ps42 rs42 F42)]) ⟨.inl h42, trivial⟩ ⟨Tryd.func28, rfl, by kernel_rfl, by kernel_rfl, by kernel_rfl, by kernel_rfl⟩ rfl (z0d (cs := [.loop (z2d Tryd.f28 4)]) (by kernel_rfl) (by kernel_rfl) (by kernel_rfl) ⟨z0R mixed z0w (Δ := [(52, mkCall ps52 rs52 F52), (53, mkCall ps53 rs53 F53), (54, mkCall ps54 rs54 F54), (55, mkCall ps55 rs55 F55)]) ⟨.inl h52, .inl h53, .inl h54, .inl h55, trivial⟩ hg28_4 (z0d (Λ := []) (cs := []) (by kernel_rfl) (by kernel_rfl) (by kernel_rfl) trivial), trivial⟩)
abbrev z5l : Shape := ⟨[(0, .pt 0 0), (1, .d true (.pr tA (.pr tI (.pr tI .bool))))], [.box 53 [.ro 1, .d false tI], .nr tT tC 77 73]⟩
abbrev m29 : List Nat := [0, 1]
abbrev rs29 : Shape := ⟨[(0, .pt 0 0), (1, .fs 1 4)], [.box 53 [.ro 1, .d false tI], .nr tT tC 77 73]⟩
abbrev TF29 := z5l.den → Option rs29.den
noncomputable def F29 : TF29 := runFnBI tb [] Tryd.f29 z5l rs29 m29 1
theorem call29 : z0c Tryd.prog 29 (mkCallB z5l rs29 m29 1 (F29)) :=
 runFnBI_ok mixed z0w (Δ := []) trivial ⟨Tryd.func29, rfl, by kernel_rfl, by kernel_rfl, by kernel_rfl, by kernel_rfl, by kernel_rfl, by kernel_rfl, by kernel_rfl, by kernel_rfl, by kernel_rfl, by kernel_rfl⟩ rfl
abbrev ps47 : List SV := [.d false tS]
abbrev rs47 : Shape := ⟨[(0, .d false (.int .u64))], []⟩
abbrev TF47 := SV.denL ps47 → Option rs47.den
noncomputable def F47 (F19 : TF19) : TF47 := z0M tb [(19, mkCall ps19 rs19 F19)] [] Tryd.f47 ps47 rs47
theorem call47 {F19 : TF19} (h19 : z0c Tryd.prog 19 (mkCall ps19 rs19 F19)) : z0c Tryd.prog 47 (mkCall ps47 rs47 (F47 F19)) :=
 z0k mixed z0w (Δ := [(19, mkCall ps19 rs19 F19)]) ⟨.inl h19, trivial⟩ ⟨Tryd.func47, rfl, by kernel_rfl, by kernel_rfl, by kernel_rfl, by kernel_rfl⟩ rfl (z0d (Λ := []) (cs := []) (by kernel_rfl) (by kernel_rfl) (by kernel_rfl) trivial)
abbrev ps43 : List SV := [.ve [.d false (.sl (.pr tT (.sl tC))), .d false tI], .d false tS, .d true (.pr tI (.pr (.int .u64) tA))]
abbrev rs43 : Shape := ⟨[(0, .d false .bool)], []⟩
abbrev TF43 := SV.denL ps43 → Option rs43.den
noncomputable def F43 (F34 : TF34) (F47 : TF47) : TF43 := z0M tb [(34, mkCall ps34 rs34 F34), (47, mkCall ps47 rs47 F47)] [] Tryd.f43 ps43 rs43
theorem call43 {F34 : TF34} {F47 : TF47} (h34 : z0c Tryd.prog 34 (mkCall ps34 rs34 F34)) (h47 : z0c Tryd.prog 47 (mkCall ps47 rs47 F47)) : z0c Tryd.prog 43 (mkCall ps43 rs43 (F43 F34 F47)) :=
 z0k mixed z0w (Δ := [(34, mkCall ps34 rs34 F34), (47, mkCall ps47 rs47 F47)]) ⟨.inl h34, .inl h47, trivial⟩ ⟨Tryd.func43, rfl, by kernel_rfl, by kernel_rfl, by kernel_rfl, by kernel_rfl⟩ rfl (z0d (Λ := []) (cs := []) (by kernel_rfl) (by kernel_rfl) (by kernel_rfl) trivial)
abbrev ps44 : List SV := [.d true tA]
abbrev rs44 : Shape := ⟨[(0, .fn 56 [.pt 0 0])], [.box 32 [.d false tI, .d false tI]]⟩
abbrev TF44 := SV.denL ps44 → Option rs44.den
noncomputable def F44 : TF44 := z0M tb [] [] Tryd.f44 ps44 rs44
theorem call44 : z0c Tryd.prog 44 (mkCall ps44 rs44 (F44)) :=
 z0k mixed z0w (Δ := []) trivial ⟨Tryd.func44, rfl, by kernel_rfl, by kernel_rfl, by kernel_rfl, by kernel_rfl⟩ rfl (z0d (Λ := []) (cs := []) (by kernel_rfl) (by kernel_rfl) (by kernel_rfl) trivial)
abbrev ps64 : List SV := [.d false (.int .u64), .d false (.int .u64)]
abbrev rs64 : Shape := ⟨[(0, .d false (.int .u64)), (1, .d false (.int .u64))], []⟩
abbrev TF64 := SV.denL ps64 → Option rs64.den
noncomputable def F64 : TF64 := z0M tb [] [] Tryd.f64 ps64 rs64
theorem call64 : z0c Tryd.prog 64 (mkCall ps64 rs64 (F64)) :=
 z0k mixed z0w (Δ := []) trivial ⟨Tryd.func64, rfl, by kernel_rfl, by kernel_rfl, by kernel_rfl, by kernel_rfl⟩ rfl (z0d (Λ := []) (cs := []) (by kernel_rfl) (by kernel_rfl) (by kernel_rfl) trivial)
abbrev ps57 : List SV := [.d false (.int .u64), .d false (.int .u64)]
abbrev rs57 : Shape := ⟨[(0, .d false (.int .u64)), (1, .d false (.int .u64))], []⟩
abbrev TF57 := SV.denL ps57 → Option rs57.den
noncomputable def F57 (F64 : TF64) : TF57 := z0M tb [(64, mkCall ps64 rs64 F64)] [] Tryd.f57 ps57 rs57
theorem call57 {F64 : TF64} (h64 : z0c Tryd.prog 64 (mkCall ps64 rs64 F64)) : z0c Tryd.prog 57 (mkCall ps57 rs57 (F57 F64)) :=
 z0k mixed z0w (Δ := [(64, mkCall ps64 rs64 F64)]) ⟨.inl h64, trivial⟩ ⟨Tryd.func57, rfl, by kernel_rfl, by kernel_rfl, by kernel_rfl, by kernel_rfl⟩ rfl (z0d (Λ := []) (cs := []) (by kernel_rfl) (by kernel_rfl) (by kernel_rfl) trivial)
abbrev ps45 : List SV := [.d false (.sl tC), .d false tI]
abbrev rs45 : Shape := ⟨[(0, .rf 0)], [.row tC 73]⟩
abbrev TF45 := SV.denL ps45 → Option rs45.den
abbrev z4W : Shape := ⟨[(7, .rf 0), (8, .d false tI)], [.row tC 73]⟩
abbrev w45_8 : List Way := [(some 0, ⟨[(7, .rf 0)], [.row tC 73]⟩)]
noncomputable def S45_8 : z4W.den → Option (z4W.den ⊕ denX w45_8) := z2H tb [] [] (upTo 48) Tryd.f45 8 z4W w45_8
noncomputable def F45 (F57 : TF57) (g45_8 : z4W.den → Option (denX w45_8)) : TF45 := z0M tb [(57, mkCall ps57 rs57 F57)] [(8, lp z4W w45_8 g45_8)] Tryd.f45 ps45 rs45
theorem call45 {F57 : TF57} {g45_8 : z4W.den → Option (denX w45_8)} (h57 : z0c Tryd.prog 57 (mkCall ps57 rs57 F57)) (hg45_8 : Lim (S45_8) g45_8) : z0c Tryd.prog 45 (mkCall ps45 rs45 (F45 F57 g45_8)) :=
 z0k mixed z0w (Δ := [(57, mkCall ps57 rs57 F57)]) ⟨.inl h57, trivial⟩ ⟨Tryd.func45, rfl, by kernel_rfl, by kernel_rfl, by kernel_rfl, by kernel_rfl⟩ rfl (z0d (cs := [.loop (z2d Tryd.f45 8)]) (by kernel_rfl) (by kernel_rfl) (by kernel_rfl) ⟨z0R mixed z0w (Δ := []) trivial hg45_8 (z0d (Λ := []) (cs := []) (by kernel_rfl) (by kernel_rfl) (by kernel_rfl) trivial), trivial⟩)
abbrev ps30 : List SV := [.ve [.d false (.sl (.pr tT (.sl tC))), .d false tI], .d false tS, .d false tI, .d true (.pr tI (.pr (.int .u64) tA))]
abbrev rs30 : Shape := ⟨[(0, .rf 0)], [.row tC 73]⟩
abbrev TF30 := SV.denL ps30 → Option rs30.den
abbrev z2m : Shape := ⟨[(9, .pt 0 0)], [.box 66 [.rf 1], .row tC 73]⟩
abbrev z6k : List Way := []
abbrev z4Z : Shape := ⟨[(7, .pt 0 0), (9, .pt 1 0), (16, .d false tI), (17, .d false tI)], [.box 39 [.d false tI, .d false (.int .u64), .d false tI, .d false tI], .box 66 [.rf 2], .row tC 73]⟩
abbrev w30_3 : List Way := [(some 1, ⟨[(9, .pt 0 0)], [.box 66 [.rf 1], .row tC 73]⟩)]
noncomputable def S30_10 : El56 → z2m.den → Option (z2m.den ⊕ denX z6k) := roundFnG tb [] [] (upTo 67) Tryd.f30 10 avs56 z2m z6k
noncomputable def S30_3 : z4Z.den → Option (z4Z.den ⊕ denX w30_3) := z2H tb [] [] (upTo 67) Tryd.f30 3 z4Z w30_3
noncomputable def F30 (F25 : TF25) (F43 : TF43) (F44 : TF44) (F45 : TF45) (D56 : Dt56) (g30_10 : List El56 → z2m.den → Option (z2m.den ⊕ denX z6k)) (g30_3 : z4Z.den → Option (denX w30_3)) : TF30 := z0M tb [(25, mkCall ps25 rs25 F25), (43, mkCall ps43 rs43 F43), (44, mkCall ps44 rs44 F44), (45, mkCall ps45 rs45 F45)] [(10, rangeO (rgG Tryd.f30 10) 56 (cap56 D56) z2m z6k g30_10), (3, lp z4Z w30_3 g30_3)] Tryd.f30 ps30 rs30
theorem call30 {F25 : TF25} {F43 : TF43} {F44 : TF44} {F45 : TF45} {g30_10 : List El56 → z2m.den → Option (z2m.den ⊕ denX z6k)} {g30_3 : z4Z.den → Option (denX w30_3)} {D56 : Dt56} (it56 : z4D Tryd.prog 56 z6C (cap56 D56)) (h25 : z0c Tryd.prog 25 (mkCall ps25 rs25 F25)) (h43 : z0c Tryd.prog 43 (mkCall ps43 rs43 F43)) (h44 : z0c Tryd.prog 44 (mkCall ps44 rs44 F44)) (h45 : z0c Tryd.prog 45 (mkCall ps45 rs45 F45)) (hg30_10 : foldR (S30_10) = g30_10) (hg30_3 : Lim (S30_3) g30_3) : z0c Tryd.prog 30 (mkCall ps30 rs30 (F30 F25 F43 F44 F45 D56 g30_10 g30_3)) :=
 z0k mixed z0w (Δ := [(25, mkCall ps25 rs25 F25), (43, mkCall ps43 rs43 F43), (44, mkCall ps44 rs44 F44), (45, mkCall ps45 rs45 F45)]) ⟨.inl h25, .inl h43, .inl h44, .inl h45, trivial⟩ ⟨Tryd.func30, rfl, by kernel_rfl, by kernel_rfl, by kernel_rfl, by kernel_rfl⟩ rfl (z0d (cs := [.rangeFunc (rgG Tryd.f30 10) (rgP Tryd.f30 10) (rgA Tryd.f30 10) (rgB Tryd.f30 10), .loop (z2d Tryd.f30 3)]) (by kernel_rfl) (by kernel_rfl) (by kernel_rfl) ⟨by rw [← hg30_10]; exact z5e mixed z0w (Δ := []) trivial it56 ⟨by kernel_rfl, rel56, fun _ => rfl, by kernel_rfl, by kernel_rfl, by kernel_rfl⟩ (z0d (Λ := []) (cs := []) (by kernel_rfl) (by kernel_rfl) (by kernel_rfl) trivial), z0R mixed z0w (Δ := []) trivial hg30_3 (z0d (Λ := []) (cs := []) (by kernel_rfl) (by kernel_rfl) (by kernel_rfl) trivial), trivial⟩)
abbrev psh12 : Shape := ⟨[(0, .pt 0 0), (1, .d false tS), (2, .d true tA), (3, .d true (.pr tI (.pr (.int .u64) tA)))], [.box 53 [.ro 1, .d false tI], .nr tT tC 77 73]⟩
abbrev m12 : List Nat := [0]
abbrev rs12 : Shape := ⟨[(0, .pt 0 0), (1, .d false tI)], [.box 53 [.ro 1, .d false tI], .nr tT tC 77 73]⟩
abbrev TF12 := psh12.den → Option rs12.den
noncomputable def F12 (F27 : TF27) (F28 : TF28) (F29 : TF29) (F30 : TF30) : TF12 := z4v tb [(27, mkCall ps27 rs27 F27), (28, mkCall ps28 rs28 F28), (29, mkCallB z5l rs29 m29 1 F29), (30, mkCall ps30 rs30 F30)] [] Tryd.f12 psh12 rs12 1
theorem call12 {F27 : TF27} {F28 : TF28} {F29 : TF29} {F30 : TF30} (h27 : z0c Tryd.prog 27 (mkCall ps27 rs27 F27)) (h28 : z0c Tryd.prog 28 (mkCall ps28 rs28 F28)) (h29 : z0c Tryd.prog 29 (mkCallB z5l rs29 m29 1 F29)) (h30 : z0c Tryd.prog 30 (mkCall ps30 rs30 F30)) : z0c Tryd.prog 12 (mkCallB psh12 rs12 m12 1 (F12 F27 F28 F29 F30)) :=
 z1Z mixed z0w (Δ := [(27, mkCall ps27 rs27 F27), (28, mkCall ps28 rs28 F28), (29, mkCallB z5l rs29 m29 1 F29), (30, mkCall ps30 rs30 F30)]) ⟨.inl h27, .inl h28, .inl h29, .inl h30, trivial⟩ ⟨Tryd.func12, rfl, by kernel_rfl, by kernel_rfl, by kernel_rfl, by kernel_rfl, by kernel_rfl, by kernel_rfl, by kernel_rfl, by kernel_rfl, by kernel_rfl⟩ rfl (z0d (Λ := []) (cs := []) (by kernel_rfl) (by kernel_rfl) (by kernel_rfl) trivial)
abbrev ps29v : List SV := [.ve [.d false (.sl (.pr tT (.sl tC))), .d false tI], .d true (.pr tA (.pr tI (.pr tI .bool)))]
abbrev rs29v : Shape := ⟨[(0, .d false (.sl tC))], []⟩
abbrev TF29v := SV.denL ps29v → Option rs29v.den
noncomputable def F29v : TF29v := z0M tb [] [] Tryd.f29 ps29v rs29v
theorem call29v : z0c Tryd.prog 29 (mkCall ps29v rs29v (F29v)) :=
 z0k mixed z0w (Δ := []) trivial ⟨Tryd.func29, rfl, by kernel_rfl, by kernel_rfl, by kernel_rfl, by kernel_rfl⟩ rfl (z0d (Λ := []) (cs := []) (by kernel_rfl) (by kernel_rfl) (by kernel_rfl) trivial)
abbrev ps46 : List SV := [.d false (.sl tC)]
abbrev rs46 : Shape := ⟨[(0, .d true tA), (1, .d false .bool)], []⟩
abbrev TF46 := SV.denL ps46 → Option rs46.den
abbrev z3j : Shape := ⟨[(1, .pt 0 0), (2, .pt 1 0), (3, .pt 2 0), (4, .pt 3 0)], [.box 66 [.d false (.sl tC)], .box 32 [.d false tI, .d false tI], .box 4 [.d false .bool], .box 32 [.d false tI, .d false tI]]⟩
abbrev w46_5 : List Way := [(none, ⟨[(2, .pt 0 0), (3, .pt 1 0)], [.box 32 [.d false tI, .d false tI], .box 4 [.d false .bool]]⟩)]
noncomputable def S46_5 (F25 : TF25) : El56 → z3j.den → Option (z3j.den ⊕ denX w46_5) := roundFnG tb [(25, mkCall ps25 rs25 F25)] [] (upTo 33) Tryd.f46 5 avs56 z3j w46_5
noncomputable def F46 (F25 : TF25) (F44 : TF44) (D56 : Dt56) (g46_5 : List El56 → z3j.den → Option (z3j.den ⊕ denX w46_5)) : TF46 := z0M tb [(25, mkCall ps25 rs25 F25), (44, mkCall ps44 rs44 F44)] [(5, rangeO (rgG Tryd.f46 5) 56 (cap56 D56) z3j w46_5 g46_5)] Tryd.f46 ps46 rs46
theorem call46 {F25 : TF25} {F44 : TF44} {g46_5 : List El56 → z3j.den → Option (z3j.den ⊕ denX w46_5)} {D56 : Dt56} (it56 : z4D Tryd.prog 56 z6C (cap56 D56)) (h25 : z0c Tryd.prog 25 (mkCall ps25 rs25 F25)) (h44 : z0c Tryd.prog 44 (mkCall ps44 rs44 F44)) (hg46_5 : foldR (S46_5 F25) = g46_5) : z0c Tryd.prog 46 (mkCall ps46 rs46 (F46 F25 F44 D56 g46_5)) :=
 z0k mixed z0w (Δ := [(25, mkCall ps25 rs25 F25), (44, mkCall ps44 rs44 F44)]) ⟨.inl h25, .inl h44, trivial⟩ ⟨Tryd.func46, rfl, by kernel_rfl, by kernel_rfl, by kernel_rfl, by kernel_rfl⟩ rfl (z0d (cs := [.rangeFunc (rgG Tryd.f46 5) (rgP Tryd.f46 5) (rgA Tryd.f46 5) (rgB Tryd.f46 5)]) (by kernel_rfl) (by kernel_rfl) (by kernel_rfl) ⟨by rw [← hg46_5]; exact z5e mixed z0w (Δ := [(25, mkCall ps25 rs25 F25)]) ⟨.inl h25, trivial⟩ it56 ⟨by kernel_rfl, rel56, fun _ => rfl, by kernel_rfl, by kernel_rfl, by kernel_rfl⟩ (z0d (Λ := []) (cs := []) (by kernel_rfl) (by kernel_rfl) (by kernel_rfl) trivial), trivial⟩)
abbrev ps31 : List SV := [.d false tS, .d false (.sl tC)]
abbrev rs31 : Shape := ⟨[(0, .d true (.pr tI (.pr (.int .u64) tA)))], []⟩
abbrev TF31 := SV.denL ps31 → Option rs31.den
abbrev z4Y : Shape := ⟨[(0, .d false tS), (4, .pt 0 0), (5, .pt 1 0), (8, .d false (.int .u64)), (24, .d false (.sl tC)), (25, .d false tI), (26, .d false tI)], [.box 39 [.d false tI, .d false (.int .u64), .d false tI, .d false tI], .box 39 [.d false tI, .d false (.int .u64), .d false tI, .d false tI]]⟩
abbrev w31_9 : List Way := [(none, ⟨[(4, .pt 0 0)], [.box 39 [.d false tI, .d false (.int .u64), .d false tI, .d false tI]]⟩), (some 0, ⟨[(0, .d false tS), (4, .pt 0 0), (8, .d false (.int .u64))], [.box 39 [.d false tI, .d false (.int .u64), .d false tI, .d false tI]]⟩)]
noncomputable def S31_9 : z4Y.den → Option (z4Y.den ⊕ denX w31_9) := z2H tb [] [] (upTo 50) Tryd.f31 9 z4Y w31_9
noncomputable def F31 (F25 : TF25) (F46 : TF46) (F47 : TF47) (g31_9 : z4Y.den → Option (denX w31_9)) : TF31 := z0M tb [(25, mkCall ps25 rs25 F25), (46, mkCall ps46 rs46 F46), (47, mkCall ps47 rs47 F47)] [(9, lp z4Y w31_9 g31_9)] Tryd.f31 ps31 rs31
theorem call31 {F25 : TF25} {F46 : TF46} {F47 : TF47} {g31_9 : z4Y.den → Option (denX w31_9)} (h25 : z0c Tryd.prog 25 (mkCall ps25 rs25 F25)) (h46 : z0c Tryd.prog 46 (mkCall ps46 rs46 F46)) (h47 : z0c Tryd.prog 47 (mkCall ps47 rs47 F47)) (hg31_9 : Lim (S31_9) g31_9) : z0c Tryd.prog 31 (mkCall ps31 rs31 (F31 F25 F46 F47 g31_9)) :=
 z0k mixed z0w (Δ := [(25, mkCall ps25 rs25 F25), (46, mkCall ps46 rs46 F46), (47, mkCall ps47 rs47 F47)]) ⟨.inl h25, .inl h46, .inl h47, trivial⟩ ⟨Tryd.func31, rfl, by kernel_rfl, by kernel_rfl, by kernel_rfl, by kernel_rfl⟩ rfl (z0d (cs := [.loop (z2d Tryd.f31 9)]) (by kernel_rfl) (by kernel_rfl) (by kernel_rfl) ⟨z0R mixed z0w (Δ := []) trivial hg31_9 (z0d (Λ := []) (cs := []) (by kernel_rfl) (by kernel_rfl) (by kernel_rfl) trivial), trivial⟩)
abbrev ps13 : List SV := [.ve [.d false (.sl (.pr tT (.sl tC))), .d false tI], .d false tS, .d true tA]
abbrev rs13 : Shape := ⟨[(0, .d true (.pr tI (.pr (.int .u64) tA))), (1, .d false tI)], []⟩
abbrev TF13 := SV.denL ps13 → Option rs13.den
noncomputable def F13 (F25 : TF25) (F27 : TF27) (F28 : TF28) (F29v : TF29v) (F31 : TF31) : TF13 := z0M tb [(25, mkCall ps25 rs25 F25), (27, mkCall ps27 rs27 F27), (28, mkCall ps28 rs28 F28), (29, mkCall ps29v rs29v F29v), (31, mkCall ps31 rs31 F31)] [] Tryd.f13 ps13 rs13
theorem call13 {F25 : TF25} {F27 : TF27} {F28 : TF28} {F29v : TF29v} {F31 : TF31} (h25 : z0c Tryd.prog 25 (mkCall ps25 rs25 F25)) (h27 : z0c Tryd.prog 27 (mkCall ps27 rs27 F27)) (h28 : z0c Tryd.prog 28 (mkCall ps28 rs28 F28)) (h29v : z0c Tryd.prog 29 (mkCall ps29v rs29v F29v)) (h31 : z0c Tryd.prog 31 (mkCall ps31 rs31 F31)) : z0c Tryd.prog 13 (mkCall ps13 rs13 (F13 F25 F27 F28 F29v F31)) :=
 z0k mixed z0w (Δ := [(25, mkCall ps25 rs25 F25), (27, mkCall ps27 rs27 F27), (28, mkCall ps28 rs28 F28), (29, mkCall ps29v rs29v F29v), (31, mkCall ps31 rs31 F31)]) ⟨.inl h25, .inl h27, .inl h28, .inl h29v, .inl h31, trivial⟩ ⟨Tryd.func13, rfl, by kernel_rfl, by kernel_rfl, by kernel_rfl, by kernel_rfl⟩ rfl (z0d (Λ := []) (cs := []) (by kernel_rfl) (by kernel_rfl) (by kernel_rfl) trivial)
abbrev ps32 : List SV := [.d false (.sl tI)]
abbrev rs32 : Shape := ⟨[(0, .d false tI)], []⟩
abbrev TF32 := SV.denL ps32 → Option rs32.den
abbrev z4X : Shape := ⟨[(5, .d false (.sl tI)), (6, .d false tI), (7, .d false tI)], []⟩
abbrev w32_2 : List Way := [(none, ⟨[(2, .d false tI)], []⟩), (some 0, ⟨[], []⟩)]
noncomputable def S32_2 : z4X.den → Option (z4X.den ⊕ denX w32_2) := z2H tb [] [] (upTo 15) Tryd.f32 2 z4X w32_2
noncomputable def F32 (g32_2 : z4X.den → Option (denX w32_2)) : TF32 := z0M tb [] [(2, lp z4X w32_2 g32_2)] Tryd.f32 ps32 rs32
theorem call32 {g32_2 : z4X.den → Option (denX w32_2)} (hg32_2 : Lim (S32_2) g32_2) : z0c Tryd.prog 32 (mkCall ps32 rs32 (F32 g32_2)) :=
 z0k mixed z0w (Δ := []) trivial ⟨Tryd.func32, rfl, by kernel_rfl, by kernel_rfl, by kernel_rfl, by kernel_rfl⟩ rfl (z0d (cs := [.loop (z2d Tryd.f32 2)]) (by kernel_rfl) (by kernel_rfl) (by kernel_rfl) ⟨z0R mixed z0w (Δ := []) trivial hg32_2 (z0d (Λ := []) (cs := []) (by kernel_rfl) (by kernel_rfl) (by kernel_rfl) trivial), trivial⟩)
abbrev ps33 : List SV := [.d false (.sl tC)]
abbrev rs33 : Shape := ⟨[(0, .rf 0)], [.row tC 73]⟩
abbrev TF33 := SV.denL ps33 → Option rs33.den
noncomputable def F33 : TF33 := z0M tb [] [] Tryd.f33 ps33 rs33
theorem call33 : z0c Tryd.prog 33 (mkCall ps33 rs33 (F33)) :=
 z0k mixed z0w (Δ := []) trivial ⟨Tryd.func33, rfl, by kernel_rfl, by kernel_rfl, by kernel_rfl, by kernel_rfl⟩ rfl (z0d (Λ := []) (cs := []) (by kernel_rfl) (by kernel_rfl) (by kernel_rfl) trivial)
abbrev psh14 : Shape := ⟨[(0, .pt 0 0), (1, .d true tA), (2, .d true tA), (3, .d false tI)], [.box 53 [.ro 1, .d false tI], .nr tT tC 77 73]⟩
abbrev m14 : List Nat := [0]
abbrev rs14 : Shape := ⟨[(0, .pt 0 0), (1, .d false tI)], [.box 53 [.ro 1, .d false tI], .nr tT tC 77 73]⟩
abbrev TF14 := psh14.den → Option rs14.den
noncomputable def F14 (F28 : TF28) (F29 : TF29) (F32 : TF32) (F33 : TF33) : TF14 := z4v tb [(28, mkCall ps28 rs28 F28), (29, mkCallB z5l rs29 m29 1 F29), (32, mkCall ps32 rs32 F32), (33, mkCall ps33 rs33 F33)] [] Tryd.f14 psh14 rs14 1
theorem call14 {F28 : TF28} {F29 : TF29} {F32 : TF32} {F33 : TF33} (h28 : z0c Tryd.prog 28 (mkCall ps28 rs28 F28)) (h29 : z0c Tryd.prog 29 (mkCallB z5l rs29 m29 1 F29)) (h32 : z0c Tryd.prog 32 (mkCall ps32 rs32 F32)) (h33 : z0c Tryd.prog 33 (mkCall ps33 rs33 F33)) : z0c Tryd.prog 14 (mkCallB psh14 rs14 m14 1 (F14 F28 F29 F32 F33)) :=
 z1Z mixed z0w (Δ := [(28, mkCall ps28 rs28 F28), (29, mkCallB z5l rs29 m29 1 F29), (32, mkCall ps32 rs32 F32), (33, mkCall ps33 rs33 F33)]) ⟨.inl h28, .inl h29, .inl h32, .inl h33, trivial⟩ ⟨Tryd.func14, rfl, by kernel_rfl, by kernel_rfl, by kernel_rfl, by kernel_rfl, by kernel_rfl, by kernel_rfl, by kernel_rfl, by kernel_rfl, by kernel_rfl⟩ rfl (z0d (Λ := []) (cs := []) (by kernel_rfl) (by kernel_rfl) (by kernel_rfl) trivial)
abbrev ps35 : List SV := [.ve [.d false (.sl (.pr tT (.sl tC))), .d false tI], .d true tA]
abbrev rs35 : Shape := ⟨[(0, .d false .bool)], []⟩
abbrev TF35 := SV.denL ps35 → Option rs35.den
noncomputable def F35 (F25 : TF25) : TF35 := z0M tb [(25, mkCall ps25 rs25 F25)] [] Tryd.f35 ps35 rs35
theorem call35 {F25 : TF25} (h25 : z0c Tryd.prog 25 (mkCall ps25 rs25 F25)) : z0c Tryd.prog 35 (mkCall ps35 rs35 (F35 F25)) :=
 z0k mixed z0w (Δ := [(25, mkCall ps25 rs25 F25)]) ⟨.inl h25, trivial⟩ ⟨Tryd.func35, rfl, by kernel_rfl, by kernel_rfl, by kernel_rfl, by kernel_rfl⟩ rfl (z0d (Λ := []) (cs := []) (by kernel_rfl) (by kernel_rfl) (by kernel_rfl) trivial)
abbrev ps15 : List SV := [.ve [.d false (.sl (.pr tT (.sl tC))), .d false tI], .d true tA, .d true tA]
abbrev rs15 : Shape := ⟨[(0, .d false .bool), (1, .d false tI)], []⟩
abbrev TF15 := SV.denL ps15 → Option rs15.den
noncomputable def F15 (F25 : TF25) (F34 : TF34) (F35 : TF35) : TF15 := z0M tb [(25, mkCall ps25 rs25 F25), (34, mkCall ps34 rs34 F34), (35, mkCall ps35 rs35 F35)] [] Tryd.f15 ps15 rs15
theorem call15 {F25 : TF25} {F34 : TF34} {F35 : TF35} (h25 : z0c Tryd.prog 25 (mkCall ps25 rs25 F25)) (h34 : z0c Tryd.prog 34 (mkCall ps34 rs34 F34)) (h35 : z0c Tryd.prog 35 (mkCall ps35 rs35 F35)) : z0c Tryd.prog 15 (mkCall ps15 rs15 (F15 F25 F34 F35)) :=
 z0k mixed z0w (Δ := [(25, mkCall ps25 rs25 F25), (34, mkCall ps34 rs34 F34), (35, mkCall ps35 rs35 F35)]) ⟨.inl h25, .inl h34, .inl h35, trivial⟩ ⟨Tryd.func15, rfl, by kernel_rfl, by kernel_rfl, by kernel_rfl, by kernel_rfl⟩ rfl (z0d (Λ := []) (cs := []) (by kernel_rfl) (by kernel_rfl) (by kernel_rfl) trivial)
abbrev psh36 : Shape := ⟨[(0, .pt 0 0), (1, .d false tI)], [.box 53 [.ro 1, .d false tI], .nr tT tC 77 73]⟩
abbrev m36 : List Nat := [0]
abbrev rs36 : Shape := ⟨[(0, .pt 0 0)], [.box 53 [.ro 1, .d false tI], .nr tT tC 77 73]⟩
abbrev TF36 := psh36.den → Option rs36.den
noncomputable def F36 (F37 : TF37) : TF36 := z4v tb [(37, mkCall ps37 rs37 F37)] [] Tryd.f36 psh36 rs36 1
theorem call36 {F37 : TF37} (h37 : z0c Tryd.prog 37 (mkCall ps37 rs37 F37)) : z0c Tryd.prog 36 (mkCallB psh36 rs36 m36 1 (F36 F37)) :=
 z1Z mixed z0w (Δ := [(37, mkCall ps37 rs37 F37)]) ⟨.inl h37, trivial⟩ ⟨Tryd.func36, rfl, by kernel_rfl, by kernel_rfl, by kernel_rfl, by kernel_rfl, by kernel_rfl, by kernel_rfl, by kernel_rfl, by kernel_rfl, by kernel_rfl⟩ rfl (z0d (Λ := []) (cs := []) (by kernel_rfl) (by kernel_rfl) (by kernel_rfl) trivial)
abbrev psh16 : Shape := ⟨[(0, .pt 0 0), (1, .d true tA)], [.box 53 [.ro 1, .d false tI], .nr tT tC 77 73]⟩
abbrev m16 : List Nat := [0]
abbrev rs16 : Shape := ⟨[(0, .pt 0 0), (1, .d false tI)], [.box 53 [.ro 1, .d false tI], .nr tT tC 77 73]⟩
abbrev TF16 := psh16.den → Option rs16.den
noncomputable def F16 (F25 : TF25) (F34 : TF34) (F36 : TF36) : TF16 := z4v tb [(25, mkCall ps25 rs25 F25), (34, mkCall ps34 rs34 F34), (36, mkCallB psh36 rs36 m36 1 F36)] [] Tryd.f16 psh16 rs16 1
theorem call16 {F25 : TF25} {F34 : TF34} {F36 : TF36} (h25 : z0c Tryd.prog 25 (mkCall ps25 rs25 F25)) (h34 : z0c Tryd.prog 34 (mkCall ps34 rs34 F34)) (h36 : z0c Tryd.prog 36 (mkCallB psh36 rs36 m36 1 F36)) : z0c Tryd.prog 16 (mkCallB psh16 rs16 m16 1 (F16 F25 F34 F36)) :=
 z1Z mixed z0w (Δ := [(25, mkCall ps25 rs25 F25), (34, mkCall ps34 rs34 F34), (36, mkCallB psh36 rs36 m36 1 F36)]) ⟨.inl h25, .inl h34, .inl h36, trivial⟩ ⟨Tryd.func16, rfl, by kernel_rfl, by kernel_rfl, by kernel_rfl, by kernel_rfl, by kernel_rfl, by kernel_rfl, by kernel_rfl, by kernel_rfl, by kernel_rfl⟩ rfl (z0d (Λ := []) (cs := []) (by kernel_rfl) (by kernel_rfl) (by kernel_rfl) trivial)
abbrev psh17 : Shape := ⟨[(0, .pt 0 0), (1, .d false (.int .u64)), (2, .d false tI)], [.box 53 [.ro 1, .d false tI], .nr tT tC 77 73]⟩
abbrev m17 : List Nat := [0]
abbrev rs17 : Shape := ⟨[(0, .pt 0 0), (1, .d true tA), (2, .d false tI)], [.box 53 [.ro 1, .d false tI], .nr tT tC 77 73]⟩
abbrev TF17 := psh17.den → Option rs17.den
noncomputable def F17 (F24 : TF24) (F25 : TF25) (F26 : TF26) (F37 : TF37) : TF17 := z4v tb [(24, mkCall ps24 rs24 F24), (25, mkCall ps25 rs25 F25), (26, mkCallB z5m rs26 m26 1 F26), (37, mkCall ps37 rs37 F37)] [] Tryd.f17 psh17 rs17 1
theorem call17 {F24 : TF24} {F25 : TF25} {F26 : TF26} {F37 : TF37} (h24 : z0c Tryd.prog 24 (mkCall ps24 rs24 F24)) (h25 : z0c Tryd.prog 25 (mkCall ps25 rs25 F25)) (h26 : z0c Tryd.prog 26 (mkCallB z5m rs26 m26 1 F26)) (h37 : z0c Tryd.prog 37 (mkCall ps37 rs37 F37)) : z0c Tryd.prog 17 (mkCallB psh17 rs17 m17 1 (F17 F24 F25 F26 F37)) :=
 z1Z mixed z0w (Δ := [(24, mkCall ps24 rs24 F24), (25, mkCall ps25 rs25 F25), (26, mkCallB z5m rs26 m26 1 F26), (37, mkCall ps37 rs37 F37)]) ⟨.inl h24, .inl h25, .inl h26, .inl h37, trivial⟩ ⟨Tryd.func17, rfl, by kernel_rfl, by kernel_rfl, by kernel_rfl, by kernel_rfl, by kernel_rfl, by kernel_rfl, by kernel_rfl, by kernel_rfl, by kernel_rfl⟩ rfl (z0d (Λ := []) (cs := []) (by kernel_rfl) (by kernel_rfl) (by kernel_rfl) trivial)
abbrev ps18 : List SV := [.ve [.d false (.sl (.pr tT (.sl tC))), .d false tI]]
abbrev rs18 : Shape := ⟨[(0, .d false tI)], []⟩
abbrev TF18 := SV.denL ps18 → Option rs18.den
noncomputable def F18 : TF18 := z0M tb [] [] Tryd.f18 ps18 rs18
theorem call18 : z0c Tryd.prog 18 (mkCall ps18 rs18 (F18)) :=
 z0k mixed z0w (Δ := []) trivial ⟨Tryd.func18, rfl, by kernel_rfl, by kernel_rfl, by kernel_rfl, by kernel_rfl⟩ rfl (z0d (Λ := []) (cs := []) (by kernel_rfl) (by kernel_rfl) (by kernel_rfl) trivial)
abbrev ps4 : List SV := []
abbrev rs4 : Shape := ⟨[(0, .d false .bool)], []⟩
abbrev TF4 := SV.denL ps4 → Option rs4.den
noncomputable def F4 (F5 : TF5) (F6 : TF6) (F9 : TF9) (F10 : TF10) (F11 : TF11) (F12 : TF12) (F13 : TF13) (F14 : TF14) (F15 : TF15) (F16 : TF16) (F17 : TF17) (F18 : TF18) : TF4 := z0M tb [(5, mkCall ps5 rs5 F5), (6, mkCall ps6 rs6 F6), (9, mkCall ps9 rs9 F9), (10, mkCallB psh10 rs10 m10 1 F10), (11, mkCall ps11 rs11 F11), (12, mkCallB psh12 rs12 m12 1 F12), (13, mkCall ps13 rs13 F13), (14, mkCallB psh14 rs14 m14 1 F14), (15, mkCall ps15 rs15 F15), (16, mkCallB psh16 rs16 m16 1 F16), (17, mkCallB psh17 rs17 m17 1 F17), (18, mkCall ps18 rs18 F18)] [] Tryd.f4 ps4 rs4
theorem call4 {F10 : TF10} {F11 : TF11} {F12 : TF12} {F13 : TF13} {F14 : TF14} {F15 : TF15} {F16 : TF16} {F17 : TF17} {F18 : TF18} {F5 : TF5} {F6 : TF6} {F9 : TF9} (h10 : z0c Tryd.prog 10 (mkCallB psh10 rs10 m10 1 F10)) (h11 : z0c Tryd.prog 11 (mkCall ps11 rs11 F11)) (h12 : z0c Tryd.prog 12 (mkCallB psh12 rs12 m12 1 F12)) (h13 : z0c Tryd.prog 13 (mkCall ps13 rs13 F13)) (h14 : z0c Tryd.prog 14 (mkCallB psh14 rs14 m14 1 F14)) (h15 : z0c Tryd.prog 15 (mkCall ps15 rs15 F15)) (h16 : z0c Tryd.prog 16 (mkCallB psh16 rs16 m16 1 F16)) (h17 : z0c Tryd.prog 17 (mkCallB psh17 rs17 m17 1 F17)) (h18 : z0c Tryd.prog 18 (mkCall ps18 rs18 F18)) (h5 : z0c Tryd.prog 5 (mkCall ps5 rs5 F5)) (h6 : z0c Tryd.prog 6 (mkCall ps6 rs6 F6)) (h9 : z0c Tryd.prog 9 (mkCall ps9 rs9 F9)) : z0c Tryd.prog 4 (mkCall ps4 rs4 (F4 F5 F6 F9 F10 F11 F12 F13 F14 F15 F16 F17 F18)) :=
 z0k mixed z0w (Δ := [(5, mkCall ps5 rs5 F5), (6, mkCall ps6 rs6 F6), (9, mkCall ps9 rs9 F9), (10, mkCallB psh10 rs10 m10 1 F10), (11, mkCall ps11 rs11 F11), (12, mkCallB psh12 rs12 m12 1 F12), (13, mkCall ps13 rs13 F13), (14, mkCallB psh14 rs14 m14 1 F14), (15, mkCall ps15 rs15 F15), (16, mkCallB psh16 rs16 m16 1 F16), (17, mkCallB psh17 rs17 m17 1 F17), (18, mkCall ps18 rs18 F18)]) ⟨.inl h5, .inl h6, .inl h9, .inl h10, .inl h11, .inl h12, .inl h13, .inl h14, .inl h15, .inl h16, .inl h17, .inl h18, trivial⟩ ⟨Tryd.func4, rfl, by kernel_rfl, by kernel_rfl, by kernel_rfl, by kernel_rfl⟩ rfl (z0d (Λ := []) (cs := []) (by kernel_rfl) (by kernel_rfl) (by kernel_rfl) trivial)
abbrev ps50 : List SV := [.d false (.int .u8)]
abbrev rs50 : Shape := ⟨[(0, .d false .bool)], []⟩
abbrev TF50 := SV.denL ps50 → Option rs50.den
noncomputable def F50 : TF50 := z0M tb [] [] Tryd.f50 ps50 rs50
theorem call50 : z0c Tryd.prog 50 (mkCall ps50 rs50 (F50)) :=
 z0k mixed z0w (Δ := []) trivial ⟨Tryd.func50, rfl, by kernel_rfl, by kernel_rfl, by kernel_rfl, by kernel_rfl⟩ rfl (z0d (Λ := []) (cs := []) (by kernel_rfl) (by kernel_rfl) (by kernel_rfl) trivial)
abbrev ps40 : List SV := [.d false tS]
abbrev rs40 : Shape := ⟨[(0, .d false tI), (1, .d false .bool)], []⟩
abbrev TF40 := SV.denL ps40 → Option rs40.den
abbrev z3B : Shape := ⟨[(0, .d false tS), (4, .d false tI), (5, .d false tI)], []⟩
abbrev w40_5 : List Way := [(none, ⟨[(2, .d false tI), (3, .d false .bool)], []⟩), (some 0, ⟨[(4, .d false tI)], []⟩)]
noncomputable def S40_5 (F50 : TF50) : z3B.den → Option (z3B.den ⊕ denX w40_5) := z2H tb [(50, mkCall ps50 rs50 F50)] [] (upTo 43) Tryd.f40 5 z3B w40_5
noncomputable def F40 (g40_5 : z3B.den → Option (denX w40_5)) : TF40 := z0M tb [] [(5, lp z3B w40_5 g40_5)] Tryd.f40 ps40 rs40
theorem call40 {F50 : TF50} {g40_5 : z3B.den → Option (denX w40_5)} (h50 : z0c Tryd.prog 50 (mkCall ps50 rs50 F50)) (hg40_5 : Lim (S40_5 F50) g40_5) : z0c Tryd.prog 40 (mkCall ps40 rs40 (F40 g40_5)) :=
 z0k mixed z0w (Δ := []) trivial ⟨Tryd.func40, rfl, by kernel_rfl, by kernel_rfl, by kernel_rfl, by kernel_rfl⟩ rfl (z0d (cs := [.loop (z2d Tryd.f40 5)]) (by kernel_rfl) (by kernel_rfl) (by kernel_rfl) ⟨z0R mixed z0w (Δ := [(50, mkCall ps50 rs50 F50)]) ⟨.inl h50, trivial⟩ hg40_5 (z0d (Λ := []) (cs := []) (by kernel_rfl) (by kernel_rfl) (by kernel_rfl) trivial), trivial⟩)
abbrev ps21 : List SV := [.d false tS]
abbrev rs21 : Shape := ⟨[(0, .d false tI), (1, .d false .bool)], []⟩
abbrev TF21 := SV.denL ps21 → Option rs21.den
noncomputable def F21 (F40 : TF40) : TF21 := z0M tb [(40, mkCall ps40 rs40 F40)] [] Tryd.f21 ps21 rs21
theorem call21 {F40 : TF40} (h40 : z0c Tryd.prog 40 (mkCall ps40 rs40 F40)) : z0c Tryd.prog 21 (mkCall ps21 rs21 (F21 F40)) :=
 z0k mixed z0w (Δ := [(40, mkCall ps40 rs40 F40)]) ⟨.inl h40, trivial⟩ ⟨Tryd.func21, rfl, by kernel_rfl, by kernel_rfl, by kernel_rfl, by kernel_rfl⟩ rfl (z0d (Λ := []) (cs := []) (by kernel_rfl) (by kernel_rfl) (by kernel_rfl) trivial)
abbrev ps7 : List SV := [.d false tS]
abbrev rs7 : Shape := ⟨[(0, .d false tI), (1, .d false tI)], []⟩
abbrev TF7 := SV.denL ps7 → Option rs7.den
noncomputable def F7 (F21 : TF21) : TF7 := z0M tb [(21, mkCall ps21 rs21 F21)] [] Tryd.f7 ps7 rs7
theorem call7 {F21 : TF21} (h21 : z0c Tryd.prog 21 (mkCall ps21 rs21 F21)) : z0c Tryd.prog 7 (mkCall ps7 rs7 (F7 F21)) :=
 z0k mixed z0w (Δ := [(21, mkCall ps21 rs21 F21)]) ⟨.inl h21, trivial⟩ ⟨Tryd.func7, rfl, by kernel_rfl, by kernel_rfl, by kernel_rfl, by kernel_rfl⟩ rfl (z0d (Λ := []) (cs := []) (by kernel_rfl) (by kernel_rfl) (by kernel_rfl) trivial)
abbrev ps8 : List SV := [.d false tS]
abbrev rs8 : Shape := ⟨[(0, .d false tI), (1, .d false tI)], []⟩
abbrev TF8 := SV.denL ps8 → Option rs8.den
abbrev sh8_5 : Shape := ⟨[(4, .d false tI), (6, .d false tI)], []⟩
abbrev w8_5 : List Way := [(some 0, ⟨[(6, .d false tI)], []⟩)]
noncomputable def S8_5 : sh8_5.den → Option (sh8_5.den ⊕ denX w8_5) := z2H tb [] [] (upTo 21) Tryd.f8 5 sh8_5 w8_5
noncomputable def F8 (F7 : TF7) (g8_5 : sh8_5.den → Option (denX w8_5)) : TF8 := z0M tb [(7, mkCall ps7 rs7 F7)] [(5, lp sh8_5 w8_5 g8_5)] Tryd.f8 ps8 rs8
theorem call8 {F7 : TF7} {g8_5 : sh8_5.den → Option (denX w8_5)} (h7 : z0c Tryd.prog 7 (mkCall ps7 rs7 F7)) (hg8_5 : Lim (S8_5) g8_5) : z0c Tryd.prog 8 (mkCall ps8 rs8 (F8 F7 g8_5)) :=
 z0k mixed z0w (Δ := [(7, mkCall ps7 rs7 F7)]) ⟨.inl h7, trivial⟩ ⟨Tryd.func8, rfl, by kernel_rfl, by kernel_rfl, by kernel_rfl, by kernel_rfl⟩ rfl (z0d (cs := [.loop (z2d Tryd.f8 5)]) (by kernel_rfl) (by kernel_rfl) (by kernel_rfl) ⟨z0R mixed z0w (Δ := []) trivial hg8_5 (z0d (Λ := []) (cs := []) (by kernel_rfl) (by kernel_rfl) (by kernel_rfl) trivial), trivial⟩)
abbrev ps3 : List SV := [.d false tS]
abbrev rs3 : Shape := ⟨[(0, .d false .bool)], []⟩
abbrev TF3 := SV.denL ps3 → Option rs3.den
noncomputable def F3 (F4 : TF4) (F5 : TF5) (F6 : TF6) (F7 : TF7) (F8 : TF8) : TF3 := z0M tb [(4, mkCall ps4 rs4 F4), (5, mkCall ps5 rs5 F5), (6, mkCall ps6 rs6 F6), (7, mkCall ps7 rs7 F7), (8, mkCall ps8 rs8 F8)] [] Tryd.f3 ps3 rs3
theorem call3 {F4 : TF4} {F5 : TF5} {F6 : TF6} {F7 : TF7} {F8 : TF8} (h4 : z0c Tryd.prog 4 (mkCall ps4 rs4 F4)) (h5 : z0c Tryd.prog 5 (mkCall ps5 rs5 F5)) (h6 : z0c Tryd.prog 6 (mkCall ps6 rs6 F6)) (h7 : z0c Tryd.prog 7 (mkCall ps7 rs7 F7)) (h8 : z0c Tryd.prog 8 (mkCall ps8 rs8 F8)) : z0c Tryd.prog 3 (mkCall ps3 rs3 (F3 F4 F5 F6 F7 F8)) :=
 z0k mixed z0w (Δ := [(4, mkCall ps4 rs4 F4), (5, mkCall ps5 rs5 F5), (6, mkCall ps6 rs6 F6), (7, mkCall ps7 rs7 F7), (8, mkCall ps8 rs8 F8)]) ⟨.inl h4, .inl h5, .inl h6, .inl h7, .inl h8, trivial⟩ ⟨Tryd.func3, rfl, by kernel_rfl, by kernel_rfl, by kernel_rfl, by kernel_rfl⟩ rfl (z0d (Λ := []) (cs := []) (by kernel_rfl) (by kernel_rfl) (by kernel_rfl) trivial)
end Go.Proofs.Rf
set_option linter.unusedVariables false
namespace Go.Proofs.Rf
open Go Go.RowKit
theorem F38_eq  : F38 () = (
 some
  (((), ()),
   [([(102 : UInt8), (51 : UInt8),
      (50 : UInt8)],
     32),
    ([(102 : UInt8), (54 : UInt8),
      (52 : UInt8)],
     64),
    ([(112 : UInt8), (116 : UInt8),
      (114 : UInt8)],
     64)],
   ()) : Option rs38.den) := by kernel_rfl
theorem S19_7_eq (typ0 : List UInt8) (it0s : List UInt8) (it0p : Nat) : S19_7 ((typ0, (), ()), ((it0s, it0p), ())) = (
 if it0p < it0s.length then
  if decide ((↑(Utf8.decode { data := { toList := it0s } } it0p).1 : Int) < 48) = true then
   some (Sum.inr (Sum.inl ((0, false, ()), ())))
  else
   if decide ((↑(Utf8.decode { data := { toList := it0s } } it0p).1 : Int) > 57) = true then
    some (Sum.inr (Sum.inl ((0, false, ()), ())))
   else some (Sum.inl ((typ0, (), ()), (it0s, it0p + (Utf8.decode { data := { toList := it0s } } it0p).2), ()))
 else some (Sum.inr (Sum.inr ((typ0, ()), ()))) : Option (z3k.den ⊕ denX w19_7)) := by kernel_rfl
theorem F19_eq (F38 : (SV.denL ps38) → Option (rs38).den) (F39 : (SV.denL ps39) → Option (rs39).den) (g19_7 : z3k.den → Option (denX w19_7)) (typ0 : List UInt8) : F19 F38 F39 g19_7 (typ0, ()) = (
 (F38 ()).bind fun y =>
  if (lookM Ty.str (Ty.int IntKind.i64) y.2.1 typ0).isSome = true then
   some (((lookM Ty.str (Ty.int IntKind.i64) y.2.1 typ0).getD 0, true, ()), ())
  else
   if decide ((↑typ0.length : Int) < 2) = true then some ((0, false, ()), ())
   else
    if 0 < (↑typ0.length : Int) then
     if (!(↑(typ0.getD 0 (0 : UInt8)).toNat : Int) == 117) = true then
      if 0 < (↑typ0.length : Int) then
       if (!(↑(typ0.getD 0 (0 : UInt8)).toNat : Int) == 105) = true then
        some ((0, false, ()), ())
       else
        if 1 < (↑typ0.length : Int) then
         if ((↑(typ0.getD 1 (0 : UInt8)).toNat : Int) == 48) = true then
          if
            (!typ0 == [(117 : UInt8), (48 : UInt8)]) =
             true then
           some ((0, false, ()), ())
          else
           if 1 ≤ (↑typ0.length : Int) then
            if (↑typ0.length : Int) ≤ (↑typ0.length : Int) then
             (g19_7 ((typ0, (), ()), (List.drop 1 typ0, 0), ())).bind fun y =>
              Sum.elim (fun y => some ((y.1.1, y.1.2.1, ()), ()))
               (fun z =>
                if 1 ≤ (↑(List.length z.1.1) : Int) then
                 if (↑(List.length z.1.1) : Int) ≤ (↑(List.length z.1.1) : Int) then
                  (F39 (List.drop 1 z.1.1, ())).bind fun y =>
                   if y.1.2.1 = true then some ((y.1.1, decide (y.1.1 ≤ 64), ()), ())
                   else some ((y.1.1, false, ()), ())
                 else none
                else none)
               y
            else none
           else none
         else
          if 1 ≤ (↑typ0.length : Int) then
           if (↑typ0.length : Int) ≤ (↑typ0.length : Int) then
            (g19_7 ((typ0, (), ()), (List.drop 1 typ0, 0), ())).bind fun y =>
             Sum.elim (fun y => some ((y.1.1, y.1.2.1, ()), ()))
              (fun z =>
               if 1 ≤ (↑(List.length z.1.1) : Int) then
                if (↑(List.length z.1.1) : Int) ≤ (↑(List.length z.1.1) : Int) then
                 (F39 (List.drop 1 z.1.1, ())).bind fun y =>
                  if y.1.2.1 = true then some ((y.1.1, decide (y.1.1 ≤ 64), ()), ())
                  else some ((y.1.1, false, ()), ())
                else none
               else none)
              y
           else none
          else none
        else none
      else none
     else
      if 1 < (↑typ0.length : Int) then
       if ((↑(typ0.getD 1 (0 : UInt8)).toNat : Int) == 48) = true then
        if (!typ0 == [(117 : UInt8), (48 : UInt8)]) = true then
         some ((0, false, ()), ())
        else
         if 1 ≤ (↑typ0.length : Int) then
          if (↑typ0.length : Int) ≤ (↑typ0.length : Int) then
           (g19_7 ((typ0, (), ()), (List.drop 1 typ0, 0), ())).bind fun y =>
            Sum.elim (fun y => some ((y.1.1, y.1.2.1, ()), ()))
             (fun z =>
              if 1 ≤ (↑(List.length z.1.1) : Int) then
               if (↑(List.length z.1.1) : Int) ≤ (↑(List.length z.1.1) : Int) then
                (F39 (List.drop 1 z.1.1, ())).bind fun y =>
                 if y.1.2.1 = true then some ((y.1.1, decide (y.1.1 ≤ 64), ()), ())
                 else some ((y.1.1, false, ()), ())
               else none
              else none)
             y
          else none
         else none
       else
        if 1 ≤ (↑typ0.length : Int) then
         if (↑typ0.length : Int) ≤ (↑typ0.length : Int) then
          (g19_7 ((typ0, (), ()), (List.drop 1 typ0, 0), ())).bind fun y =>
           Sum.elim (fun y => some ((y.1.1, y.1.2.1, ()), ()))
            (fun z =>
             if 1 ≤ (↑(List.length z.1.1) : Int) then
              if (↑(List.length z.1.1) : Int) ≤ (↑(List.length z.1.1) : Int) then
               (F39 (List.drop 1 z.1.1, ())).bind fun y =>
                if y.1.2.1 = true then some ((y.1.1, decide (y.1.1 ≤ 64), ()), ())
                else some ((y.1.1, false, ()), ())
              else none
             else none)
            y
         else none
        else none
      else none
    else none : Option rs19.den) := by kernel_rfl
theorem F5_eq (F19 : (SV.denL ps19) → Option (rs19).den) (typ0 : List UInt8) : F5 F19 (typ0, ()) = (
 (F19 (typ0, ())).bind fun y =>
  if (!y.1.2.1) = true then some ((0, 12, ()), ())
  else some ((IntKind.i64.wrap ((IntKind.i64.wrap (y.1.1 + 7)).tdiv 8), 0, ()), ()) : Option rs5.den) := by kernel_rfl
theorem F20_eq (g20_2 : z3C.den → Option (denX w20_2)) (size0 : Int) : F20 g20_2 (size0, ()) = (
 (g20_2 ((size0, 1, ()), ())).bind fun y => some ((y.1.1, ()), ()) : Option rs20.den) := by kernel_rfl
theorem F6_eq (F5 : (SV.denL ps5) → Option (rs5).den) (F20 : (SV.denL ps20) → Option (rs20).den) (typ0 : List UInt8) : F6 F5 F20 (typ0, ()) = (
 (F5 (typ0, ())).bind fun y =>
  if (!y.1.2.1 == 0) = true then some ((0, y.1.2.1, ()), ())
  else (F20 (y.1.1, ())).bind fun y => some ((y.1.1, 0, ()), ()) : Option rs6.den) := by kernel_rfl
theorem F50_eq (c0 : Int) : F50 (c0, ()) = (
 if decide (c0 ≥ 48) = true then some ((decide (c0 ≤ 57), ()), ()) else some ((false, ()), ()) : Option rs50.den) := by kernel_rfl
theorem S40_5_eq (F50 : (SV.denL ps50) → Option (rs50).den) (s0 : List UInt8) (n4 : Int) (i5 : Int) : S40_5 F50 ((s0, n4, i5, ()), ()) = (
 if decide (i5 < (↑s0.length : Int)) = true then
  if 0 ≤ i5 then
   if i5 < (↑s0.length : Int) then
    (F50 ((↑(s0.getD i5.toNat (0 : UInt8)).toNat : Int), ())).bind fun y =>
     if (!y.1.1) = true then some (Sum.inr (Sum.inl ((0, false, ()), ())))
     else
      if 0 ≤ i5 then
       if i5 < (↑s0.length : Int) then
        some
         (Sum.inl
          ((s0,
            IntKind.i64.wrap
             (IntKind.i64.wrap (10 * n4) +
              IntKind.i64.wrap
               (IntKind.u8.wrap
                ((↑(s0.getD i5.toNat (0 : UInt8)).toNat : Int) - 48))),
            IntKind.i64.wrap (i5 + 1), ()),
           ()))
       else none
      else none
   else none
  else none
 else some (Sum.inr (Sum.inr ((n4, ()), ()))) : Option (z3B.den ⊕ denX w40_5)) := by kernel_rfl
theorem F40_eq (g40_5 : z3B.den → Option (denX w40_5)) (s0 : List UInt8) : F40 g40_5 (s0, ()) = (
 if (s0 == []) = true then some ((0, false, ()), ())
 else
  if decide ((↑s0.length : Int) > 15) = true then some ((0, false, ()), ())
  else
   if decide ((↑s0.length : Int) > 1) = true then
    if 0 < (↑s0.length : Int) then
     if ((↑(s0.getD 0 (0 : UInt8)).toNat : Int) == 48) = true then some ((0, false, ()), ())
     else
      (g40_5 ((s0, 0, 0, ()), ())).bind fun y =>
       Sum.elim (fun y => some ((y.1.1, y.1.2.1, ()), ())) (fun z => some ((z.1.1, true, ()), ())) y
    else none
   else
    (g40_5 ((s0, 0, 0, ()), ())).bind fun y =>
     Sum.elim (fun y => some ((y.1.1, y.1.2.1, ()), ())) (fun z => some ((z.1.1, true, ()), ())) y : Option rs40.den) := by kernel_rfl
theorem F21_eq (F40 : (SV.denL ps40) → Option (rs40).den) (typ0 : List UInt8) : F21 F40 (typ0, ()) = (
 if decide ((↑typ0.length : Int) < 2) = true then some ((0, false, ()), ())
 else
  if 0 < (↑typ0.length : Int) then
   if (!(↑(typ0.getD 0 (0 : UInt8)).toNat : Int) == 117) = true then
    if 0 < (↑typ0.length : Int) then
     if (!(↑(typ0.getD 0 (0 : UInt8)).toNat : Int) == 105) = true then
      some ((0, false, ()), ())
     else
      if 1 ≤ (↑typ0.length : Int) then
       if (↑typ0.length : Int) ≤ (↑typ0.length : Int) then
        (F40 (List.drop 1 typ0, ())).bind fun y =>
         if y.1.2.1 = true then
          if decide (y.1.1 ≤ 64) = true then
           if decide (y.1.1 > 0) = true then some ((y.1.1, true, ()), ())
           else
            if 0 < (↑typ0.length : Int) then
             some ((y.1.1, (↑(typ0.getD 0 (0 : UInt8)).toNat : Int) == 117, ()), ())
            else none
          else some ((y.1.1, false, ()), ())
         else some ((y.1.1, false, ()), ())
       else none
      else none
    else none
   else
    if 1 ≤ (↑typ0.length : Int) then
     if (↑typ0.length : Int) ≤ (↑typ0.length : Int) then
      (F40 (List.drop 1 typ0, ())).bind fun y =>
       if y.1.2.1 = true then
        if decide (y.1.1 ≤ 64) = true then
         if decide (y.1.1 > 0) = true then some ((y.1.1, true, ()), ())
         else
          if 0 < (↑typ0.length : Int) then
           some ((y.1.1, (↑(typ0.getD 0 (0 : UInt8)).toNat : Int) == 117, ()), ())
          else none
        else some ((y.1.1, false, ()), ())
       else some ((y.1.1, false, ()), ())
     else none
    else none
  else none : Option rs21.den) := by kernel_rfl
theorem F7_eq (F21 : (SV.denL ps21) → Option (rs21).den) (typ0 : List UInt8) : F7 F21 (typ0, ()) = (
 if
   (typ0 ==
     [(102 : UInt8), (51 : UInt8),
      (50 : UInt8)]) =
    true then
  some ((4, 0, ()), ())
 else
  if
    (typ0 ==
      [(102 : UInt8), (54 : UInt8),
       (52 : UInt8)]) =
     true then
   if
     (typ0 ==
       [(102 : UInt8), (54 : UInt8),
        (52 : UInt8)]) =
      true then
    some ((8, 0, ()), ())
   else
    (F21 (typ0, ())).bind fun y =>
     if (!y.1.2.1) = true then some ((0, 12, ()), ())
     else some ((IntKind.i64.wrap ((IntKind.i64.wrap (y.1.1 + 7)).tdiv 8), 0, ()), ())
  else
   if
     (typ0 ==
       [(112 : UInt8), (116 : UInt8),
        (114 : UInt8)]) =
      true then
    some ((8, 0, ()), ())
   else
    (F21 (typ0, ())).bind fun y =>
     if (!y.1.2.1) = true then some ((0, 12, ()), ())
     else some ((IntKind.i64.wrap ((IntKind.i64.wrap (y.1.1 + 7)).tdiv 8), 0, ()), ()) : Option rs7.den) := by kernel_rfl
theorem F8_eq (F7 : (SV.denL ps7) → Option (rs7).den) (g8_5 : sh8_5.den → Option (denX w8_5)) (typ0 : List UInt8) : F8 F7 g8_5 (typ0, ()) = (
 (F7 (typ0, ())).bind fun y =>
  if (!y.1.2.1 == 0) = true then some ((0, y.1.2.1, ()), ())
  else (g8_5 ((y.1.1, 1, ()), ())).bind fun y => some ((y.1.1, 0, ()), ()) : Option rs8.den) := by kernel_rfl
theorem F3_eq (F4 : (SV.denL ps4) → Option (rs4).den) (F5 : (SV.denL ps5) → Option (rs5).den) (F6 : (SV.denL ps6) → Option (rs6).den) (F7 : (SV.denL ps7) → Option (rs7).den) (F8 : (SV.denL ps8) → Option (rs8).den) (typ0 : List UInt8) : F3 F4 F5 F6 F7 F8 (typ0, ()) = (
 if decide ((↑typ0.length : Int) > 200) = true then (F4 ()).bind fun y => some ((y.1.1, ()), ())
 else
  (F5 (typ0, ())).bind fun y =>
   (F6 (typ0, ())).bind fun y_1 =>
    (F7 (typ0, ())).bind fun y_2 =>
     (F8 (typ0, ())).bind fun y_3 =>
      if (y.1.1 == y_2.1.1) = true then
       if (y.1.2.1 == y_2.1.2.1) = true then
        if (y_1.1.1 == y_3.1.1) = true then
         if (y_1.1.2.1 == y_3.1.2.1) = true then (F4 ()).bind fun y => some ((y.1.1, ()), ())
         else some ((false, ()), ())
        else some ((false, ()), ())
       else some ((false, ()), ())
      else some ((false, ()), ()) : Option rs3.den) := by kernel_rfl
end Go.Proofs.Rf
namespace Go.Proofs
open Go.Shelf
def Tryd.laysC172_ren : Go.Shelf.Ren := ⟨fun | 172 => 39 | 244 => 48 | 245 => 49 | 247 => 58 | 279 => 59 | 280 => 60 | 281 => 61 | 282 => 62 | 287 => 65 | 316 => 66 | 171 => 68 | 205 => 67 | 321 => 69 | 322 => 70 | 243 => 71 | 246 => 72 | 283 => 73 | 284 => 74 | 285 => 75 | 286 => 76 | 129 => 78 | 317 => 77 | 318 => 79 | 319 => 80 | 320 => 81 | 337 => 82 | 338 => 83 | n => n, fun | 9 => 9 | 3 => 3 | 75 => 82 | 76 => 83 | 4 => 4 | 5 => 5 | 167 => 110 | 37 => 111 | 0 => 0 | 85 => 112 | 2 => 2 | 168 => 114 | 53 => 37 | 175 => 122 | 46 => 107 | 210 => 126 | 127 => 130 | 145 => 133 | 143 => 131 | 21 => 21 | 171 => 135 | 173 => 138 | 212 => 141 | 51 => 117 | 20 => 20 | 213 => 142 | 232 => 145 | 233 => 146 | 80 => 147 | n => n, fun | 15 => 0 | 16 => 1 | 17 => 2 | 18 => 3 | 19 => 4 | n => n⟩
theorem Tryd.laysC172 : Go.Proofs.LaysC.n172 Tryd.prog Tryd.laysC172_ren := {
 mixed := by kernel_rfl
 f129 := Tryd.func78.trans (congrArg some (by kernel_rfl))
 f171 := Tryd.func68.trans (congrArg some (by kernel_rfl))
 f172 := Tryd.func39.trans (congrArg some (by kernel_rfl))
 f205 := Tryd.func67.trans (congrArg some (by kernel_rfl))
 f243 := Tryd.func71.trans (congrArg some (by kernel_rfl))
 f244 := Tryd.func48.trans (congrArg some (by kernel_rfl))
 f245 := Tryd.func49.trans (congrArg some (by kernel_rfl))
 f246 := Tryd.func72.trans (congrArg some (by kernel_rfl))
 f247 := Tryd.func58.trans (congrArg some (by kernel_rfl))
 f279 := Tryd.func59.trans (congrArg some (by kernel_rfl))
 f280 := Tryd.func60.trans (congrArg some (by kernel_rfl))
 f281 := Tryd.func61.trans (congrArg some (by kernel_rfl))
 f282 := Tryd.func62.trans (congrArg some (by kernel_rfl))
 f283 := Tryd.func73.trans (congrArg some (by kernel_rfl))
 f284 := Tryd.func74.trans (congrArg some (by kernel_rfl))
 f285 := Tryd.func75.trans (congrArg some (by kernel_rfl))
 f286 := Tryd.func76.trans (congrArg some (by kernel_rfl))
 f287 := Tryd.func65.trans (congrArg some (by kernel_rfl))
 f316 := Tryd.func66.trans (congrArg some (by kernel_rfl))
 f317 := Tryd.func77.trans (congrArg some (by kernel_rfl))
 f318 := Tryd.func79.trans (congrArg some (by kernel_rfl))
 f319 := Tryd.func80.trans (congrArg some (by kernel_rfl))
 f320 := Tryd.func81.trans (congrArg some (by kernel_rfl))
 f321 := Tryd.func69.trans (congrArg some (by kernel_rfl))
 f322 := Tryd.func70.trans (congrArg some (by kernel_rfl))
 f337 := Tryd.func82.trans (congrArg some (by kernel_rfl))
 f338 := Tryd.func83.trans (congrArg some (by kernel_rfl))
 t0 := Tryd.underlying0
 a0 := Tryd.isAgg0
 z0 := Tryd.sizeOf0
 v0 := Tryd.zeroValue0
 t2 := Tryd.underlying2
 a2 := Tryd.isAgg2
 z2 := Tryd.sizeOf2
 v2 := Tryd.zeroValue2
 t3 := Tryd.underlying3
 a3 := Tryd.isAgg3
 z3 := Tryd.sizeOf3
 v3 := Tryd.zeroValue3
 t4 := Tryd.underlying4
 a4 := Tryd.isAgg4
 z4 := Tryd.sizeOf4
 v4 := Tryd.zeroValue4
 t5 := Tryd.underlying5
 a5 := Tryd.isAgg5
 z5 := Tryd.sizeOf5
 v5 := Tryd.zeroValue5
 t9 := Tryd.underlying9
 a9 := Tryd.isAgg9
 z9 := Tryd.sizeOf9
 v9 := Tryd.zeroValue9
 t20 := Tryd.underlying20
 a20 := Tryd.isAgg20
 z20 := Tryd.sizeOf20
 v20 := Tryd.zeroValue20
 t21 := Tryd.underlying21
 a21 := Tryd.isAgg21
 z21 := Tryd.sizeOf21
 v21 := Tryd.zeroValue21
 t37 := Tryd.underlying111
 a37 := Tryd.isAgg111
 z37 := Tryd.sizeOf111
 v37 := Tryd.zeroValue111
 t46 := Tryd.underlying107
 a46 := Tryd.isAgg107
 z46 := Tryd.sizeOf107
 v46 := Tryd.zeroValue107
 t51 := Tryd.underlying117
 a51 := Tryd.isAgg117
 z51 := Tryd.sizeOf117
 v51 := Tryd.zeroValue117
 t53 := Tryd.underlying37
 a53 := Tryd.isAgg37
 z53 := Tryd.sizeOf37
 v53 := Tryd.zeroValue37
 t75 := Tryd.underlying82
 a75 := Tryd.isAgg82
 z75 := Tryd.sizeOf82
 v75 := Tryd.zeroValue82
 t76 := Tryd.underlying83
 a76 := Tryd.isAgg83
 z76 := Tryd.sizeOf83
 v76 := Tryd.zeroValue83
 t85 := Tryd.underlying112
 a85 := Tryd.isAgg112
 z85 := Tryd.sizeOf112
 v85 := Tryd.zeroValue112
 t127 := Tryd.underlying130
 a127 := Tryd.isAgg130
 z127 := Tryd.sizeOf130
 v127 := Tryd.zeroValue130
 t143 := Tryd.underlying131
 a143 := Tryd.isAgg131
 z143 := Tryd.sizeOf131
 v143 := Tryd.zeroValue131
 t145 := Tryd.underlying133
 a145 := Tryd.isAgg133
 z145 := Tryd.sizeOf133
 v145 := Tryd.zeroValue133
 t167 := Tryd.underlying110
 a167 := Tryd.isAgg110
 z167 := Tryd.sizeOf110
 v167 := Tryd.zeroValue110
 t168 := Tryd.underlying114
 a168 := Tryd.isAgg114
 z168 := Tryd.sizeOf114
 v168 := Tryd.zeroValue114
 t171 := Tryd.underlying135
 a171 := Tryd.isAgg135
 z171 := Tryd.sizeOf135
 v171 := Tryd.zeroValue135
 t173 := Tryd.underlying138
 a173 := Tryd.isAgg138
 z173 := Tryd.sizeOf138
 v173 := Tryd.zeroValue138
 t175 := Tryd.underlying122
 a175 := Tryd.isAgg122
 z175 := Tryd.sizeOf122
 v175 := Tryd.zeroValue122
 t210 := Tryd.underlying126
 a210 := Tryd.isAgg126
 z210 := Tryd.sizeOf126
 v210 := Tryd.zeroValue126
 t212 := Tryd.underlying141
 a212 := Tryd.isAgg141
 z212 := Tryd.sizeOf141
 v212 := Tryd.zeroValue141
 t213 := Tryd.underlying142
 a213 := Tryd.isAgg142
 z213 := Tryd.sizeOf142
 t232 := Tryd.underlying145
 a232 := Tryd.isAgg145
 z232 := Tryd.sizeOf145
 v232 := Tryd.zeroValue145
 t233 := Tryd.underlying146
 a233 := Tryd.isAgg146
 z233 := Tryd.sizeOf146
 v233 := Tryd.zeroValue146
 g15 := by kernel_rfl
 g16 := by kernel_rfl
 g17 := by kernel_rfl
 g18 := by kernel_rfl
 g19 := by kernel_rfl
 t80 := Tryd.underlying147
 a80 := Tryd.isAgg147
 z80 := Tryd.sizeOf147
 v80 := Tryd.zeroValue147
 i0 := by kernel_rfl
 i2 := by kernel_rfl
 i3 := by kernel_rfl
 i4 := by kernel_rfl
 i5 := by kernel_rfl
 i9 := by kernel_rfl
 i20 := by kernel_rfl
 i21 := by kernel_rfl
 i37 := by kernel_rfl
 i46 := by kernel_rfl
 i51 := by kernel_rfl
 i53 := by kernel_rfl
 i75 := by kernel_rfl
 i76 := by kernel_rfl
 i80 := by kernel_rfl
 i85 := by kernel_rfl
 i127 := by kernel_rfl
 i143 := by kernel_rfl
 i145 := by kernel_rfl
 i167 := by kernel_rfl
 i168 := by kernel_rfl
 i171 := by kernel_rfl
 i173 := by kernel_rfl
 i175 := by kernel_rfl
 i210 := by kernel_rfl
 i212 := by kernel_rfl
 i232 := by kernel_rfl
 i233 := by kernel_rfl
 m15 := by kernel_rfl
 m16 := by kernel_rfl
 m17 := by kernel_rfl
 m18 := by kernel_rfl
 m19 := by kernel_rfl
 c0 := by kernel_rfl
 c2 := by kernel_rfl
 c3 := by kernel_rfl
 c4 := by kernel_rfl
 c5 := by kernel_rfl
 c9 := by kernel_rfl
 c20 := by kernel_rfl
 c21 := by kernel_rfl
 c37 := by kernel_rfl
 c46 := by kernel_rfl
 c51 := by kernel_rfl
 c53 := by kernel_rfl
 c75 := by kernel_rfl
 c76 := by kernel_rfl
 c80 := by kernel_rfl
 c85 := by kernel_rfl
 c127 := by kernel_rfl
 c143 := by kernel_rfl
 c145 := by kernel_rfl
 c167 := by kernel_rfl
 c168 := by kernel_rfl
 c171 := by kernel_rfl
 c173 := by kernel_rfl
 c175 := by kernel_rfl
 c210 := by kernel_rfl
 c212 := by kernel_rfl
 c213 := by kernel_rfl
 c232 := by kernel_rfl
 c233 := by kernel_rfl }
open Go.RowKit in
theorem Tryd.strconv_Atoi_ok (s : ByteArray) (hmax : s.size ≤ 9223372036854775806) (v : Int) (h : Lib.atoiAll s.data.toList = .ok v) (w : World) :
  Calls Tryd.prog 39 #[.string s] w fun e w' => e = .returned (.tuple #[.int .i64 v, .nilIface]) ∧ (w' = w ∨ ∃ t, w' = Lib.bytesWorld w 5 t) := Any.strconv_Atoi_ok Tryd.laysC172 s hmax v h w
open Go.RowKit in
theorem Tryd.strconv_Atoi_range (s : ByteArray) (hlim : s.size ≤ 281474976710656) (h : Lib.atoiAll s.data.toList = .range) (ev : Value) (w : World) (hv : w.cell? ⟨1, 0, none⟩ = some ev) (hev : ev = .nilIface ∨ ∃ te pe, ev = .iface te pe) :
  Calls Tryd.prog 39 #[.string s] w fun e w' => ∃ N, e = .returned (.tuple #[.int .i64 (Lib.atoiSat s.data.toList), .iface 114 (.pointer (some ⟨N, 0, none⟩))]) ∧ w.heap.size ≤ N ∧ w'.heap[N]? = some (.cells #[.string ⟨#[65, 116, 111, 105]⟩, .string s, ev] 126 (0, 0)) ∧ Below w.heap.size w w' := Any.strconv_Atoi_range Tryd.laysC172 s hlim h ev w hv hev
end Go.Proofs
namespace Go.Proofs.Rf
open Go Go.RowKit
theorem fold_mono : ∀ (l : List UInt8) (n : Nat), n ≤ l.foldl (fun n c => n * 10 + (c.toNat - 48)) n
 | [], _ => Nat.le_refl _
 | c :: r, n => Nat.le_trans (by omega) (fold_mono r (n * 10 + (c.toNat - 48)))
theorem z4y : ∀ (l : List UInt8) (n : Nat), digs l = true → n < 18446744073709551616 →
  Lib.parseUint10 n l = (if l.foldl (fun n c => n * 10 + (c.toNat - 48)) n < 18446744073709551616 then .ok (l.foldl (fun n c => n * 10 + (c.toNat - 48)) n) else .range)
 | [], n, _, hn => by
  show Lib.NumEnd.ok n = _
  rw [List.foldl_nil, if_pos hn]
 | c :: r, n, hd, hn => by
  unfold digs at hd
  rw [List.all_cons, Bool.and_eq_true, Bool.and_eq_true, Nat.ble_eq, Nat.ble_eq] at hd
  obtain ⟨⟨h1, h2⟩, h3⟩ := hd
  rw [Lib.parseUint10, if_pos ⟨h1, h2⟩, List.foldl_cons]
  have hm := fold_mono r (n * 10 + (c.toNat - 48))
  by_cases h4 : 1844674407370955162 ≤ n
  ·rw [if_pos h4, if_neg (by omega)]
  ·rw [if_neg h4]
   by_cases h5 : 18446744073709551616 ≤ n * 10 + (c.toNat - 48)
   ·rw [if_pos h5, if_neg (by omega)]
   ·rw [if_neg h5]
    exact z4y r _ h3 (by omega)
theorem atoi_digs {s : List UInt8} (h : digs s = true) (h0 : 0 < s.length) :
  Lib.atoiAll s = (if numOf s < 9223372036854775808 then .ok (numOf s : Int) else .range) ∧ (Lib.atoiAll s = .range → Lib.atoiSat s = 9223372036854775807) := by
 cases s with
 | nil => simp at h0
 | cons c r =>
  have hp := z4y (c :: r) 0 h (by omega)
  unfold digs at h
  rw [List.all_cons, Bool.and_eq_true, Bool.and_eq_true, Nat.ble_eq, Nat.ble_eq] at h
  obtain ⟨⟨h1, h2⟩, h3⟩ := h
  have hc : ¬ (c.toNat = 43 ∨ c.toNat = 45) := by omega
  have hc' : ¬ c.toNat = 45 := by omega
  have hm : Lib.parseMag (c :: r) = (if numOf (c :: r) < 18446744073709551616 then .ok (numOf (c :: r)) else .range) := by
   unfold Lib.parseMag
   rw [if_neg (by simp)]
   exact hp
  refine ⟨?_, fun _ => ?_⟩
  ·unfold Lib.atoiAll
   simp only [if_neg hc, hm]
   by_cases h4 : numOf (c :: r) < 18446744073709551616
   ·rw [if_pos h4]
    simp only [hc', not_false_eq_true, true_and, false_and, if_false]
    by_cases h5 : numOf (c :: r) < 9223372036854775808
    ·rw [if_pos h5, if_neg (by omega)]
    ·rw [if_neg h5, if_pos (by omega)]
   ·rw [if_neg h4, if_neg (by omega)]
  ·unfold Lib.atoiSat
   simp [hc']
theorem rel_ic {w : World} {ok : Nat → Prop} {ι : Nat → Option Value} {b : Bool} {v : Value} (h : isIf b v) : RelV w ok ι (.d .ic b) v := by
 simp only [RelV]
 exact ⟨v, rfl, h⟩
theorem call39 : z0c Tryd.prog 39 (mkCall ps39 rs39 F39) := by
 refine ⟨⟨Tryd.f39, Tryd.func39, by kernel_rfl, by kernel_rfl⟩, ?_, ?_⟩
 ·intro X keep w0 w ι C nb args vs e h hv hco hn
  unfold mkCall at hco
  split at hco
  ·rename_i x fz hx
   obtain ⟨y, hy, hco⟩ := z0E hco
   injection hco with hco
   subst hco
   obtain ⟨⟨H1, hFr, E1⟩, hrel⟩ := SV.z0S ps39 C args vs h (z0s.refl C) hv x fz hx
   have hargs : RelL w (okb X w ι (updC C fz)) (fun _ => none) (SV.putL ps39 x) vs := hrel _ _ (fun b hb => hb) (fun b i hb => by simp at hb)
   obtain ⟨s, ⟨⟩⟩ := x
   obtain ⟨v, vr, e1, h1, h2⟩ := z0a.1 hargs
   rw [z0b.1 h2] at e1
   subst e1
   have h1 := z1a.1 h1
   subst h1
   obtain ⟨_, v1, w1, d1, hiv, hgl⟩ := H1.gl.2 1 rfl
   have hcell : w.cell? ⟨1, 0, none⟩ = some v1 := by simp [World.cell?, hgl]
   unfold F39 at hy
   split at hy
   ·rename_i hd
    rw [Bool.and_eq_true, Bool.and_eq_true] at hd
    obtain ⟨⟨hd1, hd2⟩, hd3⟩ := hd
    have hd2 : 0 < s.length := Nat.lt_of_succ_le (by simpa [Nat.blt] using hd2)
    have hd3 : s.length ≤ 1000 := by simpa using hd3
    obtain ⟨a1, a2⟩ := atoi_digs hd1 hd2
    split at hy
    ·rename_i hlt
     injection hy with hy
     subst hy
     rw [if_pos hlt] at a1
     refine (Go.Proofs.Tryd.strconv_Atoi_ok ⟨s.toArray⟩ (by simp [ByteArray.size]; omega) _ (by simpa using a1) w).mono ?_
     rintro en w' ⟨rfl, hb⟩
     have hb : Below w.heap.size w w' := by
      rcases hb with rfl | ⟨t, rfl⟩
      ·exact Below.refl _ _
      ·exact Lib.bytesWorld_below _ _ _
     refine ⟨_, rfl, ?_⟩
     show Out X keep w0 ι C w nb ⟨.tp [.d (.int .i64) (numOf s : Int), .d .ic true], [], []⟩ _ w'
     obtain ⟨g1, g2⟩ := h.step (C' := C) (ι' := ι) (w' := w') (fun _ => False) hb.os hb.tape hb.output hb.size (fun _ _ => rfl) (fun _ _ hk => hk) (fun _ _ => rfl) (fun _ _ hk => hk.elim) (fun _ _ _ hk => hk.elim) (fun b hb' _ => hb.block b hb') (fun _ _ hk => hk.elim)
     refine ⟨ι, g1, g2, ?_, fun _ _ => rfl⟩
     simp only [RelV]
     exact ⟨_, rfl, z0a.2 ⟨_, _, rfl, z0j.2 rfl, z0a.2 ⟨_, _, rfl, rel_ic rfl, z0b.2 rfl⟩⟩⟩
    ·rename_i hlt
     injection hy with hy
     subst hy
     rw [if_neg hlt] at a1
     have a2 := a2 a1
     refine (Go.Proofs.Tryd.strconv_Atoi_range ⟨s.toArray⟩ (by simp [ByteArray.size]; omega) (by simpa using a1) v1 w hcell hiv).mono ?_
     rintro en w' ⟨N, rfl, _, _, hb⟩
     refine ⟨_, rfl, ?_⟩
     show Out X keep w0 ι C w nb ⟨.tp [.d (.int .i64) 9223372036854775807, .d .ic false], [], []⟩ _ w'
     obtain ⟨g1, g2⟩ := h.step (C' := C) (ι' := ι) (w' := w') (fun _ => False) hb.os hb.tape hb.output hb.size (fun _ _ => rfl) (fun _ _ hk => hk) (fun _ _ => rfl) (fun _ _ hk => hk.elim) (fun _ _ _ hk => hk.elim) (fun b hb' _ => hb.block b hb') (fun _ _ hk => hk.elim)
     refine ⟨ι, g1, g2, ?_, fun _ _ => rfl⟩
     simp only [RelV]
     have a3 : Lib.atoiSat (ByteArray.mk s.toArray).data.toList = 9223372036854775807 := by simpa using a2
     rw [a3]
     exact ⟨_, rfl, z0a.2 ⟨_, _, rfl, z0j.2 rfl, z0a.2 ⟨_, _, rfl, rel_ic ⟨_, _, rfl⟩, z0b.2 rfl⟩⟩⟩
   ·cases hy
  ·cases hco
 ·intro args C nb R K
  unfold mkCall
  split
  ·rename_i x fz hx
   cases F39 x <;> rfl
  ·rfl
end Go.Proofs.Rf
set_option linter.unusedVariables false
namespace Go.Proofs.Rf
open Go Go.RowKit
noncomputable def L38 : (SV.denL ps38) → Option (rs38).den := F38
theorem okL38 : z0c Tryd.prog 38 (mkCall ps38 rs38 L38) := call38
abbrev L39 : (SV.denL ps39) → Option (rs39).den := F39
theorem okL39 : z0c Tryd.prog 39 (mkCall ps39 rs39 L39) := call39
noncomputable def Lg19_7 : z3k.den → Option (denX w19_7) := limL (S19_7)
noncomputable def L19 : (SV.denL ps19) → Option (rs19).den := F19 L38 L39 Lg19_7
theorem okL19 : z0c Tryd.prog 19 (mkCall ps19 rs19 L19) := call19 okL38 okL39 (z4K _)
noncomputable def L5 : (SV.denL ps5) → Option (rs5).den := F5 L19
theorem okL5 : z0c Tryd.prog 5 (mkCall ps5 rs5 L5) := call5 okL19
noncomputable def Lg20_2 : z3C.den → Option (denX w20_2) := limL (S20_2)
noncomputable def L20 : (SV.denL ps20) → Option (rs20).den := F20 Lg20_2
theorem okL20 : z0c Tryd.prog 20 (mkCall ps20 rs20 L20) := call20 (z4K _)
noncomputable def L6 : (SV.denL ps6) → Option (rs6).den := F6 L5 L20
theorem okL6 : z0c Tryd.prog 6 (mkCall ps6 rs6 L6) := call6 okL20 okL5
noncomputable def L50 : (SV.denL ps50) → Option (rs50).den := F50
theorem okL50 : z0c Tryd.prog 50 (mkCall ps50 rs50 L50) := call50
noncomputable def Lg40_5 : z3B.den → Option (denX w40_5) := limL (S40_5 L50)
noncomputable def L40 : (SV.denL ps40) → Option (rs40).den := F40 Lg40_5
theorem okL40 : z0c Tryd.prog 40 (mkCall ps40 rs40 L40) := call40 okL50 (z4K _)
noncomputable def L21 : (SV.denL ps21) → Option (rs21).den := F21 L40
theorem okL21 : z0c Tryd.prog 21 (mkCall ps21 rs21 L21) := call21 okL40
noncomputable def L7 : (SV.denL ps7) → Option (rs7).den := F7 L21
theorem okL7 : z0c Tryd.prog 7 (mkCall ps7 rs7 L7) := call7 okL21
noncomputable def Lg8_5 : sh8_5.den → Option (denX w8_5) := limL (S8_5)
noncomputable def L8 : (SV.denL ps8) → Option (rs8).den := F8 L7 Lg8_5
theorem okL8 : z0c Tryd.prog 8 (mkCall ps8 rs8 L8) := call8 okL7 (z4K _)
end Go.Proofs.Rf
namespace Go.Proofs.Rf
open Go Go.RowKit
theorem limL_ind {A B : Type} {f : A → Option (A ⊕ B)} (μ : A → Nat) (I : A → Prop) (Q : B → Prop) (h : ∀ x, I x → (∃ y, f x = some (.inl y) ∧ I y ∧ μ y < μ x) ∨ ∃ z, f x = some (.inr z) ∧ Q z) : ∀ x, I x → ∃ z, limL f x = some z ∧ Q z := by
 have key : ∀ n x, μ x = n → I x → ∃ z, limL f x = some z ∧ Q z := by
  intro n
  induction n using Nat.strongRecOn with
  | _ n ih =>
   intro x hx hI
   rw [limL_eq]
   rcases h x hI with ⟨y, h1, h2, h3⟩ | ⟨z, h1, h2⟩
   ·rw [h1]
    exact ih (μ y) (by omega) y rfl h2
   ·rw [h1]
    exact ⟨z, rfl, h2⟩
 exact fun x hI => key _ x rfl hI
theorem w8 {n : Int} (h0 : 0 ≤ n) (h1 : n < 256) : IntKind.u8.wrap n = n := by
 simp [IntKind.wrap, IntKind.bits, IntKind.signed]
 omega
theorem wi {n : Int} (h0 : -9223372036854775808 ≤ n) (h1 : n < 9223372036854775808) : IntKind.i64.wrap n = n := by
 simp [IntKind.wrap, IntKind.bits, IntKind.signed]
 omega
theorem getD_lt {A : Type} {l : List A} {k : Nat} (d : A) (h : k < l.length) : l.getD k d = l[k] := by simp [List.getD, h]
theorem take_snoc {A : Type} {l : List A} {d : A} {k : Nat} (h : k < l.length) : l.take k ++ [l.getD k d] = l.take (k + 1) := by
 rw [getD_lt d h, List.take_append_getElem h]
theorem getD_drop8 {s : List UInt8} {i : Nat} (h : i < s.length) : s.drop i = s.getD i 0 :: s.drop (i + 1) := by
 rw [List.drop_eq_getElem_cons h, List.getD_eq_getElem?_getD, List.getElem?_eq_getElem h]
 rfl
theorem decode_lo {s : List UInt8} {p : Nat} (hp : p < s.length) (h : (s.getD p 0).toNat < 128) : Utf8.decode ⟨s.toArray⟩ p = ((s.getD p 0).toNat, 1) := by
 have hp' : p < (⟨s.toArray⟩ : ByteArray).size := by simpa [ByteArray.size] using hp
 have e : (⟨s.toArray⟩ : ByteArray)[p]'hp' = s.getD p 0 := by
  rw [List.getD_eq_getElem?_getD, List.getElem?_eq_getElem hp]
  rfl
 have := decode_ascii ⟨s.toArray⟩ p hp' (by rw [e]; exact h)
 rw [e] at this
 exact this
theorem decode_hi {s : List UInt8} {p : Nat} (hp : p < s.length) (h : 128 ≤ (s.getD p 0).toNat) : 128 ≤ (Utf8.decode ⟨s.toArray⟩ p).1 := by
 have hp' : p < (⟨s.toArray⟩ : ByteArray).size := by simpa [ByteArray.size] using hp
 have e : (⟨s.toArray⟩ : ByteArray)[p]'hp' = s.getD p 0 := by
  rw [List.getD_eq_getElem?_getD, List.getElem?_eq_getElem hp]
  rfl
 exact (decode_high ⟨s.toArray⟩ p hp' (by rw [e]; exact h)).1
def isd (c : UInt8) : Bool := Nat.ble 48 c.toNat && Nat.ble c.toNat 57
theorem z3y {c : UInt8} : isd c = true ↔ 48 ≤ c.toNat ∧ c.toNat ≤ 57 := by simp [isd]
theorem z4N (s : List UInt8) : digs s = s.all isd := rfl
theorem all_drop {s : List UInt8} {p : Nat} (hp : p < s.length) : (s.drop p).all isd = (isd (s.getD p 0) && (s.drop (p + 1)).all isd) := by
 rw [getD_drop8 hp, List.all_cons]
theorem Lg19_7_val (t s : List UInt8) : Lg19_7 ((t, (), ()), ((s, 0), ())) = some (if digs s = true then .inr ((t, ()), ()) else .inl ((0, false, ()), ())) := by
 obtain ⟨z, h1, rfl⟩ := limL_ind (f := S19_7) (fun x => s.length - x.2.1.2)
  (fun x => ∃ p : Nat, x = ((t, (), ()), ((s, p), ())) ∧ p ≤ s.length ∧ s.all isd = (s.drop p).all isd)
  (fun z => z = (if digs s = true then .inr ((t, ()), ()) else .inl ((0, false, ()), ()))) (by
  rintro x ⟨p, rfl, hp, hall⟩
  rw [z4N]
  by_cases hlt : p < s.length
  ·have e := S19_7_eq t s p
   rw [if_pos hlt] at e
   rw [all_drop hlt] at hall
   by_cases hc : (s.getD p 0).toNat < 128
   ·have hd : Utf8.decode { data := { toList := s } } p = _ := decode_lo hlt hc
    rw [hd] at e
    by_cases hb : isd (s.getD p 0) = true
    ·left
     have hb' := z3y.1 hb
     rw [if_neg (by rw [decide_eq_true_eq]; omega), if_neg (by rw [decide_eq_true_eq]; omega)] at e
     refine ⟨_, e, ⟨p + 1, rfl, by omega, by rw [hall, hb, Bool.true_and]⟩, by show s.length - (p + 1) < s.length - p; omega⟩
    ·right
     have hb' : ¬ (48 ≤ (s.getD p 0).toNat ∧ (s.getD p 0).toNat ≤ 57) := fun h => hb (z3y.2 h)
     rw [Bool.eq_false_iff.2 hb, Bool.false_and] at hall
     rw [hall]
     by_cases h1 : (s.getD p 0).toNat < 48
     ·rw [if_pos (by rw [decide_eq_true_eq]; omega)] at e
      exact ⟨_, e, rfl⟩
     ·rw [if_neg (by rw [decide_eq_true_eq]; omega), if_pos (by rw [decide_eq_true_eq]; omega)] at e
      exact ⟨_, e, rfl⟩
   ·right
    have hh : 128 ≤ (Utf8.decode { data := { toList := s } } p).1 := decode_hi hlt (by omega)
    have hb : isd (s.getD p 0) = false := by rw [Bool.eq_false_iff]; exact fun h => by have := z3y.1 h; omega
    rw [hb, Bool.false_and] at hall
    rw [hall]
    rw [if_neg (by rw [decide_eq_true_eq]; omega), if_pos (by rw [decide_eq_true_eq]; omega)] at e
    exact ⟨_, e, rfl⟩
  ·right
   refine ⟨_, by rw [S19_7_eq]; exact if_neg hlt, ?_⟩
   rw [hall, List.drop_of_length_le (by omega)]
   rfl) ((t, (), ()), ((s, 0), ())) ⟨0, rfl, by omega, by rw [List.drop_zero]⟩
 exact h1
theorem numOf_snoc (l : List UInt8) (c : UInt8) : numOf (l ++ [c]) = numOf l * 10 + (c.toNat - 48) := by
 simp [numOf, List.foldl_append]
theorem numOf_take {s : List UInt8} {i : Nat} (h : i < s.length) : numOf (s.take (i + 1)) = numOf (s.take i) * 10 + ((s.getD i 0).toNat - 48) := by
 rw [← take_snoc (d := (0 : UInt8)) h, numOf_snoc]
theorem fold_lt : ∀ (l : List UInt8) (n : Nat), l.all isd = true → l.foldl (fun n c => n * 10 + (c.toNat - 48)) n < (n + 1) * 10 ^ l.length
 | [], n, _ => by simp
 | c :: r, n, h => by
  rw [List.all_cons, Bool.and_eq_true] at h
  have hc := z3y.1 h.1
  have h1 := fold_lt r (n * 10 + (c.toNat - 48)) h.2
  rw [List.foldl_cons, List.length_cons, Nat.pow_succ]
  have h2 : (n * 10 + (c.toNat - 48) + 1) * 10 ^ r.length ≤ ((n + 1) * 10) * 10 ^ r.length := Nat.mul_le_mul_right _ (by omega)
  rw [Nat.mul_assoc, Nat.mul_comm 10] at h2
  exact Nat.lt_of_lt_of_le h1 h2
theorem numOf_lt {l : List UInt8} (h : l.all isd = true) : numOf l < 10 ^ l.length := by
 have := fold_lt l 0 h
 simpa [numOf] using this
theorem fold_ge : ∀ (l : List UInt8) (n : Nat), n * 10 ^ l.length ≤ l.foldl (fun n c => n * 10 + (c.toNat - 48)) n
 | [], n => by simp
 | c :: r, n => by
  have h1 := fold_ge r (n * 10 + (c.toNat - 48))
  rw [List.foldl_cons, List.length_cons, Nat.pow_succ]
  have h2 : (n * 10) * 10 ^ r.length ≤ (n * 10 + (c.toNat - 48)) * 10 ^ r.length := Nat.mul_le_mul_right _ (by omega)
  rw [Nat.mul_assoc, Nat.mul_comm 10] at h2
  exact Nat.le_trans h2 h1
theorem numOf_ge {c : UInt8} {r : List UInt8} (h : 49 ≤ c.toNat) : 10 ^ r.length ≤ numOf (c :: r) := by
 have h1 := fold_ge r (c.toNat - 48)
 have h2 : numOf (c :: r) = r.foldl (fun n c => n * 10 + (c.toNat - 48)) (c.toNat - 48) := by simp [numOf]
 rw [h2]
 have h3 : 1 * 10 ^ r.length ≤ (c.toNat - 48) * 10 ^ r.length := Nat.mul_le_mul_right _ (by omega)
 omega
def nm (s : List UInt8) : Bool := digs s && !(s == []) && (s == [48] || !(s.getD 0 0 == 48))
theorem L50_val (c : UInt8) : L50 ((c.toNat : Int), ()) = some ((isd c, ()), ()) := by
 refine (F50_eq _).trans ?_
 unfold isd
 by_cases h : 48 ≤ c.toNat
 ·rw [if_pos (by simp; omega), show Nat.ble 48 c.toNat = true by simpa using h, Bool.true_and]
  congr 3
  rw [Bool.eq_iff_iff, decide_eq_true_eq, Nat.ble_eq]
  omega
 ·rw [if_neg (by simp; omega), show Nat.ble 48 c.toNat = false by rw [Bool.eq_false_iff]; simpa using h, Bool.false_and]
theorem Lg40_5_val {s : List UInt8} (hl : s.length ≤ 15) : Lg40_5 ((s, 0, 0, ()), ()) = some (if digs s = true then .inr (((numOf s : Int), ()), ()) else .inl ((0, false, ()), ())) := by
 obtain ⟨z, h1, rfl⟩ := limL_ind (f := S40_5 L50) (fun x => s.length - x.1.2.2.1.toNat)
  (fun x => ∃ i : Nat, x = ((s, (numOf (s.take i) : Int), (i : Int), ()), ()) ∧ i ≤ s.length ∧ (s.take i).all isd = true ∧ s.all isd = (s.drop i).all isd)
  (fun z => z = (if digs s = true then .inr (((numOf s : Int), ()), ()) else .inl ((0, false, ()), ()))) (by
  rintro x ⟨i, rfl, hi, hD, hall⟩
  rw [S40_5_eq, z4N]
  by_cases hlt : i < s.length
  ·rw [all_drop hlt] at hall
   rw [if_pos (decide_eq_true (by omega)), if_pos (by omega), if_pos (by omega), Int.toNat_natCast, L50_val]
   simp only [Option.bind_some]
   by_cases hb : isd (s.getD i 0) = true
   ·left
    have hc := z3y.1 hb
    have hlt8 := numOf_lt hD
    rw [List.length_take, Nat.min_eq_left hi] at hlt8
    have hp : 10 ^ i ≤ 10 ^ 14 := Nat.pow_le_pow_right (by decide) (by omega)
    have e1 : IntKind.u8.wrap (((s.getD i 0).toNat : Int) - 48) = (((s.getD i 0).toNat - 48 : Nat) : Int) := by rw [w8 (by omega) (by omega)]; omega
    have e3 : IntKind.i64.wrap (10 * (numOf (s.take i) : Int)) = 10 * (numOf (s.take i) : Int) := wi (by omega) (by omega)
    have e4 : IntKind.i64.wrap (10 * (numOf (s.take i) : Int) + (((s.getD i 0).toNat - 48 : Nat) : Int)) = (numOf (s.take (i + 1)) : Int) := by
     rw [numOf_take hlt, wi (by omega) (by omega)]; omega
    have e5 : IntKind.i64.wrap ((((s.getD i 0).toNat - 48 : Nat) : Int)) = (((s.getD i 0).toNat - 48 : Nat) : Int) := wi (by omega) (by omega)
    have e6 : IntKind.i64.wrap ((i : Int) + 1) = ((i + 1 : Nat) : Int) := by rw [wi (by omega) (by omega)]; omega
    rw [if_neg (by rw [hb]; decide), if_pos (by omega), if_pos (by omega), e1, e3, e5, e4, e6]
    refine ⟨_, rfl, ⟨i + 1, rfl, by omega, ?_, by rw [hall, hb, Bool.true_and]⟩, by simp only [Int.toNat_natCast]; omega⟩
    rw [← take_snoc (d := (0 : UInt8)) hlt, List.all_append, hD, Bool.true_and, List.all_cons, hb]
    rfl
   ·right
    rw [Bool.eq_false_iff.2 hb, Bool.false_and] at hall
    rw [hall, if_pos (by simpa using hb)]
    exact ⟨_, rfl, rfl⟩
  ·right
   refine ⟨_, if_neg (by simp; omega), ?_⟩
   rw [hall, List.drop_of_length_le (by omega), List.take_of_length_le (by omega)]
   rfl) ((s, ((numOf (s.take 0) : Nat) : Int), ((0 : Nat) : Int), ()), ()) ⟨0, rfl, by omega, by simp, by rw [List.drop_zero]⟩
 exact h1
theorem beq_nat (c : UInt8) {k : Nat} (hk : k < 256) : (((c.toNat : Int)) == (k : Int)) = (c == UInt8.ofNat k) := by
 rw [Bool.eq_iff_iff, beq_iff_eq, beq_iff_eq]
 constructor
 ·intro h
  exact UInt8.toNat_inj.1 (by rw [UInt8.toNat_ofNat']; omega)
 ·rintro rfl
  rw [UInt8.toNat_ofNat']
  omega
theorem beq48 (c : UInt8) : (((c.toNat : Int)) == 48) = (c == 48) := beq_nat c (k := 48) (by decide)
theorem beq117 (c : UInt8) : (((c.toNat : Int)) == 117) = (c == 117) := beq_nat c (k := 117) (by decide)
theorem beq105 (c : UInt8) : (((c.toNat : Int)) == 105) = (c == 105) := beq_nat c (k := 105) (by decide)
theorem one48 {s : List UInt8} (h0 : s ≠ []) (h1 : ¬ 1 < s.length) : (s == [48] || !(s.getD 0 0 == 48)) = true := by
 cases s with
 | nil => exact absurd rfl h0
 | cons c s =>
  have : s = [] := List.eq_nil_of_length_eq_zero (by rw [List.length_cons] at h1; omega)
  subst this
  by_cases h : c = 48
  ·subst h; rfl
  ·have : (c == 48) = false := by simpa using h
   show ([c] == [48] || !(c == 48)) = true
   rw [this, Bool.not_false, Bool.or_true]
theorem L40_val (s : List UInt8) : L40 (s, ()) = some ((if nm s = true ∧ s.length ≤ 15 then ((numOf s : Int), true, ()) else (0, false, ())), ()) := by
 show F40 Lg40_5 (s, ()) = _
 rw [F40_eq]
 unfold nm
 by_cases h0 : s = []
 ·subst h0
  rw [if_pos (by rfl), if_neg (by simp)]
 ·rw [if_neg (by simpa using h0)]
  have e1 : (s == []) = false := by simpa using h0
  by_cases hl : s.length ≤ 15
  ·rw [if_neg (by simp; omega)]
   have hg : Lg40_5 ((s, 0, 0, ()), ()) = _ := Lg40_5_val hl
   have hl0 : 0 < s.length := List.length_pos_iff.2 h0
   by_cases h1 : 1 < s.length
   ·rw [if_pos (by simp; omega), if_pos (by omega), beq48]
    have e2 : (s == [48]) = false := by
     rw [beq_eq_false_iff_ne]; rintro rfl; simp at h1
    rw [e1, e2]
    by_cases h2 : (s.getD 0 0 == 48) = true
    ·rw [if_pos h2, if_neg (by rw [h2]; simp)]
    ·rw [if_neg h2, hg, Bool.eq_false_iff.2 h2]
     by_cases h3 : digs s = true
     ·rw [if_pos h3, if_pos (by simp [h3, hl])]; rfl
     ·rw [if_neg h3, if_neg (by simp [h3])]; rfl
   ·rw [if_neg (by simp; omega), one48 h0 h1, hg, e1]
    by_cases h3 : digs s = true
    ·rw [if_pos h3, if_pos (by simp [h3, hl])]; rfl
    ·rw [if_neg h3, if_neg (by simp [h3])]; rfl
  ·rw [if_pos (by simp; omega), if_neg (fun h => hl h.2)]
def wd (s : List UInt8) : Prop := 2 ≤ s.length ∧ (s.getD 0 0 = 117 ∨ s.getD 0 0 = 105) ∧ nm (s.drop 1) = true ∧ numOf (s.drop 1) ≤ 64 ∧ (0 < numOf (s.drop 1) ∨ s.getD 0 0 = 117)
instance (s : List UInt8) : Decidable (wd s) := by unfold wd; infer_instance
def tyb (s : List UInt8) : Option Nat :=
 if s = [102, 51, 50] then some 32 else if s = [102, 54, 52] then some 64 else if s = [112, 116, 114] then some 64 else if wd s then some (numOf (s.drop 1)) else none
theorem tyb_le {s : List UInt8} {n : Nat} (h : tyb s = some n) : n ≤ 64 := by
 unfold tyb at h
 split at h
 ·injection h with h; omega
 ·split at h
  ·injection h with h; omega
  ·split at h
   ·injection h with h; omega
   ·split at h
    ·rename_i hw
     injection h with h
     have := hw.2.2.2.1
     omega
    ·cases h
theorem nm_big {t : List UInt8} (h : nm t = true) (hl : 2 < t.length) : 64 < numOf t := by
 unfold nm at h
 rw [Bool.and_eq_true, Bool.and_eq_true, Bool.or_eq_true] at h
 obtain ⟨⟨h1, _⟩, h3⟩ := h
 cases t with
 | nil => simp at hl
 | cons c r =>
  rw [z4N, List.all_cons, Bool.and_eq_true] at h1
  have hc := z3y.1 h1.1
  have h4 : c ≠ 48 := by
   rcases h3 with h3 | h3
   ·rw [beq_iff_eq] at h3
    rw [h3] at hl
    simp at hl
   ·simpa using h3
  have h5 : c.toNat ≠ 48 := fun q => h4 (UInt8.toNat_inj.1 q)
  have h6 := numOf_ge (c := c) (r := r) (by omega)
  have h7 : 10 ^ 2 ≤ 10 ^ r.length := Nat.pow_le_pow_right (by decide) (by simp at hl; omega)
  omega
theorem width_core (t : List UInt8) (u : Bool) : ∃ n : Int, ((L40 (t, ())).bind fun y =>
  if y.1.2.1 = true then
   if decide (y.1.1 ≤ 64) = true then
    if decide (y.1.1 > 0) = true then some ((y.1.1, true, ()), ())
    else some ((y.1.1, u, ()), ())
   else some ((y.1.1, false, ()), ())
  else some ((y.1.1, false, ()), ()) : Option rs21.den) = some ((n, decide (nm t = true ∧ numOf t ≤ 64 ∧ (0 < numOf t ∨ u = true)), ()), ()) ∧ (nm t = true ∧ numOf t ≤ 64 ∧ (0 < numOf t ∨ u = true) → n = (numOf t : Int)) := by
 rw [L40_val t]
 simp only [Option.bind_some]
 by_cases hn : nm t = true ∧ t.length ≤ 15
 ·rw [if_pos hn]
  simp only [if_true]
  by_cases h64 : numOf t ≤ 64
  ·have q : decide ((numOf t : Int) ≤ 64) = true := by rw [decide_eq_true_eq]; omega
   rw [if_pos q]
   by_cases h0 : 0 < numOf t
   ·have q : decide ((numOf t : Int) > 0) = true := by rw [decide_eq_true_eq]; omega
    rw [if_pos q]
    exact ⟨_, by rw [decide_eq_true (show nm t = true ∧ numOf t ≤ 64 ∧ (0 < numOf t ∨ u = true) from ⟨hn.1, h64, .inl h0⟩)], fun _ => rfl⟩
   ·have q : ¬ decide ((numOf t : Int) > 0) = true := by rw [decide_eq_true_eq]; omega
    rw [if_neg q]
    refine ⟨_, ?_, fun _ => rfl⟩
    cases u with
    | true => rw [decide_eq_true (show nm t = true ∧ numOf t ≤ 64 ∧ (0 < numOf t ∨ true = true) from ⟨hn.1, h64, .inr rfl⟩)]
    | false => rw [decide_eq_false (show ¬ (nm t = true ∧ numOf t ≤ 64 ∧ (0 < numOf t ∨ false = true)) from fun h => by rcases h.2.2 with h | h; exact h0 h; cases h)]
  ·have q : ¬ decide ((numOf t : Int) ≤ 64) = true := by rw [decide_eq_true_eq]; omega
   rw [if_neg q]
   exact ⟨_, by rw [decide_eq_false (show ¬ (nm t = true ∧ numOf t ≤ 64 ∧ (0 < numOf t ∨ u = true)) from fun h => h64 h.2.1)], fun _ => rfl⟩
 ·rw [if_neg hn]
  have hno : ¬ (nm t = true ∧ numOf t ≤ 64 ∧ (0 < numOf t ∨ u = true)) := by
   rintro ⟨h1, h2, _⟩
   refine hn ⟨h1, ?_⟩
   by_cases hl : 2 < t.length
   ·have := nm_big h1 hl
    omega
   ·omega
  exact ⟨0, by rw [decide_eq_false hno]; rfl, fun h => absurd h hno⟩
theorem L21_val (s : List UInt8) : (wd s → L21 (s, ()) = some (((numOf (s.drop 1) : Int), true, ()), ())) ∧ (¬ wd s → ∃ n, L21 (s, ()) = some ((n, false, ()), ())) := by
 have e : L21 (s, ()) = _ := F21_eq L40 s
 by_cases h2 : 2 ≤ s.length
 ·have g0 : (0 : Int) < (s.length : Int) := by omega
  have g1 : (1 : Int) ≤ (s.length : Int) := by omega
  rw [if_neg (by simp; omega), beq117, beq105] at e
  simp only [if_pos g0, if_pos g1, if_pos (Int.le_refl _)] at e
  obtain ⟨n, k1, k2⟩ := width_core (s.drop 1) (s.getD 0 0 == 117)
  rw [k1] at e
  by_cases hu : s.getD 0 0 = 117
  ·have hu' : (!(s.getD 0 0 == 117)) = false := by rw [hu]; rfl
   have hu2 : (s.getD 0 0 == 117) = true := by rw [hu]; rfl
   rw [hu', if_neg (by decide)] at e
   rw [hu2] at e k2
   refine ⟨fun h => ?_, fun h => ⟨n, ?_⟩⟩
   ·have q := And.intro h.2.2.1 (And.intro h.2.2.2.1 (Or.inr (a := 0 < numOf (s.drop 1)) rfl : 0 < numOf (s.drop 1) ∨ true = true))
    rw [e, k2 q, decide_eq_true q]
   ·rw [e, decide_eq_false fun q => h ⟨h2, .inl hu, q.1, q.2.1, .inr hu⟩]
  ·have hu' : (!(s.getD 0 0 == 117)) = true := by rw [Bool.not_eq_true', beq_eq_false_iff_ne]; exact hu
   have hu2 : (s.getD 0 0 == 117) = false := by rw [beq_eq_false_iff_ne]; exact hu
   rw [hu', if_pos rfl] at e
   rw [hu2] at e k2
   by_cases hi : s.getD 0 0 = 105
   ·have hi' : (!(s.getD 0 0 == 105)) = false := by rw [hi]; rfl
    rw [hi', if_neg (by decide)] at e
    refine ⟨fun h => ?_, fun h => ⟨n, ?_⟩⟩
    ·have q : nm (s.drop 1) = true ∧ numOf (s.drop 1) ≤ 64 ∧ (0 < numOf (s.drop 1) ∨ false = true) := ⟨h.2.2.1, h.2.2.2.1, .inl (by rcases h.2.2.2.2 with h | h; exact h; exact absurd h hu)⟩
     rw [e, k2 q, decide_eq_true q]
    ·rw [e, decide_eq_false fun q => h ⟨h2, .inr hi, q.1, q.2.1, .inl (by rcases q.2.2 with h | h; exact h; cases h)⟩]
   ·have hi' : (!(s.getD 0 0 == 105)) = true := by rw [Bool.not_eq_true', beq_eq_false_iff_ne]; exact hi
    rw [hi', if_pos rfl] at e
    exact ⟨fun h => absurd h.2.1 (by rintro (h | h) <;> contradiction), fun _ => ⟨_, e⟩⟩
 ·rw [if_pos (by simp; omega)] at e
  exact ⟨fun h => absurd h.1 h2, fun _ => ⟨_, e⟩⟩
def szA : Option Nat → Int × Int × Unit
 | some n => (((n + 7) / 8 : Nat), 0, ())
 | none => (0, 12, ())
theorem size_form {n : Nat} (h : n ≤ 64) : IntKind.i64.wrap ((IntKind.i64.wrap ((n : Int) + 7)).tdiv 8) = (((n + 7) / 8 : Nat) : Int) := by
 rw [wi (n := (n : Int) + 7) (by omega) (by omega), Int.tdiv_eq_ediv_of_nonneg (by omega), wi (by omega) (by omega)]
 omega
theorem L7_val (s : List UInt8) : L7 (s, ()) = some (szA (tyb s), ()) := by
 refine (F7_eq L21 s).trans ?_
 unfold tyb
 by_cases h1 : s = [102, 51, 50]
 ·rw [if_pos (by simpa using h1), if_pos h1]; rfl
 ·rw [if_neg (by simpa using h1), if_neg h1]
  by_cases h2 : s = [102, 54, 52]
  ·rw [if_pos (by simpa using h2), if_pos (by simpa using h2), if_pos h2]; rfl
  ·rw [if_neg (by simpa using h2), if_neg h2]
   by_cases h3 : s = [112, 116, 114]
   ·rw [if_pos (by simpa using h3), if_pos h3]; rfl
   ·rw [if_neg (by simpa using h3), if_neg h3]
    obtain ⟨k1, k2⟩ := L21_val s
    by_cases hw : wd s
    ·rw [if_pos hw, k1 hw]
     show some _ = _
     rw [size_form hw.2.2.2.1]
     rfl
    ·obtain ⟨n, k2⟩ := k2 hw
     rw [if_neg hw, k2]
     rfl
theorem L38_val : L38 () = some (((), ()), [([102, 51, 50], 32), ([102, 54, 52], 64), ([112, 116, 114], 64)], ()) := F38_eq
theorem L39_val {t : List UInt8} (h : digs t = true) (h0 : 0 < t.length) (h1 : t.length ≤ 1000) : L39 (t, ()) = some (if numOf t < 9223372036854775808 then (((numOf t : Int), true, ()), ()) else ((9223372036854775807, false, ()), ())) := by
 show F39 (t, ()) = _
 unfold F39
 rw [if_pos (by simp [h, Nat.blt]; omega)]
 split <;> rfl
theorem look_named (s : List UInt8) : lookM Ty.str (Ty.int IntKind.i64) [([102, 51, 50], (32 : Int)), ([102, 54, 52], 64), ([112, 116, 114], 64)] s = (if s = [102, 51, 50] then some 32 else if s = [102, 54, 52] then some 64 else if s = [112, 116, 114] then some 64 else none) := by
 by_cases h1 : s = [102, 51, 50]
 ·subst h1; rfl
 ·by_cases h2 : s = [102, 54, 52]
  ·subst h2; rfl
  ·by_cases h3 : s = [112, 116, 114]
   ·subst h3; rfl
   ·rw [if_neg h1, if_neg h2, if_neg h3]
    have key : ∀ a : List UInt8, s ≠ a → ¬ Ty.str.keq s a = true := fun a h q => h (by simpa [Ty.keq] using q)
    simp only [lookM]
    rw [if_neg (key _ h1), if_neg (key _ h2), if_neg (key _ h3)]
end Go.Proofs.Rf
namespace Go.Proofs.Rf
open Go Go.RowKit
theorem L39_bits {t : List UInt8} (h : digs t = true) (h0 : 0 < t.length) (h1 : t.length ≤ 1000) : ∃ n : Int, ((L39 (t, ())).bind fun y =>
  if y.1.2.1 = true then some ((y.1.1, decide (y.1.1 ≤ 64), ()), ()) else some ((y.1.1, false, ()), ()) : Option rs19.den) = some ((n, decide (numOf t ≤ 64), ()), ()) ∧ (numOf t ≤ 64 → n = (numOf t : Int)) := by
 rw [L39_val h h0 h1]
 by_cases hl : numOf t < 9223372036854775808
 ·rw [if_pos hl]
  refine ⟨(numOf t : Int), ?_, fun _ => rfl⟩
  show some (((numOf t : Int), decide ((numOf t : Int) ≤ 64), ()), ()) = _
  congr 4
  rw [decide_eq_decide]
  omega
 ·rw [if_neg hl]
  refine ⟨9223372036854775807, ?_, fun h => by omega⟩
  rw [decide_eq_false (by omega)]
  rfl
theorem L19_core (s : List UInt8) (hl : s.length ≤ 1000) (h2 : 2 ≤ s.length) (hb : s.getD 1 0 = 48 → s = [117, 48]) :
  ∃ n : Int, ((Lg19_7 ((s, (), ()), ((s.drop 1, 0), ()))).bind fun y => Sum.elim (fun y => some ((y.1.1, y.1.2.1, ()), ())) (fun z =>
    if 1 ≤ (z.1.1.length : Int) then
     (L39 (List.drop 1 z.1.1, ())).bind fun y => if y.1.2.1 = true then some ((y.1.1, decide (y.1.1 ≤ 64), ()), ()) else some ((y.1.1, false, ()), ())
    else none) y : Option rs19.den) = some ((n, decide (nm (s.drop 1) = true ∧ numOf (s.drop 1) ≤ 64), ()), ()) ∧ (nm (s.drop 1) = true ∧ numOf (s.drop 1) ≤ 64 → n = (numOf (s.drop 1) : Int)) := by
 rw [Lg19_7_val]
 simp only [Option.bind_some]
 have hne : s.drop 1 ≠ [] := by
  intro h
  have := congrArg List.length h
  simp at this
  omega
 have hz : (s.drop 1 == [48] || !((s.drop 1).getD 0 0 == 48)) = true := by
  have e : (s.drop 1).getD 0 0 = s.getD 1 0 := by simp [List.getD]
  rw [e]
  by_cases h : s.getD 1 0 = 48
  ·rw [hb h]; rfl
  ·rw [show (s.getD 1 0 == 48) = false by rw [beq_eq_false_iff_ne]; exact h, Bool.not_false, Bool.or_true]
 by_cases hd : digs (s.drop 1) = true
 ·rw [if_pos hd]
  simp only [Sum.elim_inr]
  have g1 : (1 : Int) ≤ (s.length : Int) := by omega
  rw [if_pos g1]
  obtain ⟨n, k1, k2⟩ := L39_bits hd (by simp; omega) (by simp; omega)
  have hn : nm (s.drop 1) = true := by
   unfold nm
   rw [hd, hz]
   simpa using hne
  refine ⟨n, k1.trans ?_, fun h => k2 h.2⟩
  congr 4
  rw [decide_eq_decide]
  exact ⟨fun h => ⟨hn, h⟩, fun h => h.2⟩
 ·rw [if_neg hd]
  have hn : ¬ (nm (s.drop 1) = true ∧ numOf (s.drop 1) ≤ 64) := by
   rintro ⟨h, _⟩
   unfold nm at h
   rw [Bool.and_eq_true, Bool.and_eq_true] at h
   exact hd h.1.1
  exact ⟨0, by rw [decide_eq_false hn]; rfl, fun h => absurd h hn⟩
theorem wd_iff (s : List UInt8) : wd s ↔ 2 ≤ s.length ∧ (s.getD 0 0 = 117 ∨ s.getD 0 0 = 105) ∧ (s.getD 1 0 = 48 → s = [117, 48]) ∧ nm (s.drop 1) = true ∧ numOf (s.drop 1) ≤ 64 := by
 have key : 2 ≤ s.length → nm (s.drop 1) = true → s.getD 1 0 = 48 → s.drop 1 = [48] := by
  intro h2 hn h
  unfold nm at hn
  rw [Bool.and_eq_true, Bool.or_eq_true] at hn
  rcases hn.2 with h3 | h3
  ·simpa using h3
  ·have e : (s.drop 1).getD 0 0 = s.getD 1 0 := by simp [List.getD]
   rw [e, h] at h3
   simp at h3
 have hs : 2 ≤ s.length → s.drop 1 = [48] → s = [s.getD 0 0, 48] := by
  intro h2 h
  cases s with
  | nil => simp at h2
  | cons c r =>
   simp only [List.drop_succ_cons, List.drop_zero] at h
   rw [h]
   rfl
 constructor
 ·rintro ⟨h1, h2, h3, h4, h5⟩
  refine ⟨h1, h2, fun h => ?_, h3, h4⟩
  have hk := key h1 h3 h
  have hss := hs h1 hk
  rcases h5 with h5 | h5
  ·rw [hk] at h5
   exact absurd h5 (by decide)
  ·rw [hss, h5]
 ·rintro ⟨h1, h2, h3, h4, h5⟩
  refine ⟨h1, h2, h4, h5, ?_⟩
  by_cases h : s.getD 1 0 = 48
  ·rw [h3 h]; exact .inr rfl
  ·refine .inl ?_
   have hn := h4
   unfold nm at hn
   rw [Bool.and_eq_true, Bool.and_eq_true] at hn
   cases s with
   | nil => simp at h1
   | cons c r =>
    cases r with
    | nil => simp at h1
    | cons d r =>
     simp only [List.drop_succ_cons, List.drop_zero] at hn ⊢
     rw [z4N, List.all_cons, Bool.and_eq_true] at hn
     have hd := z3y.1 hn.1.1.1
     have hd' : d.toNat ≠ 48 := fun q => h (UInt8.toNat_inj.1 q)
     have := numOf_ge (c := d) (r := r) (by omega)
     have h10 : 0 < 10 ^ r.length := Nat.pow_pos (by decide)
     omega
theorem L19_val (s : List UInt8) (hl : s.length ≤ 1000) : (∀ n, tyb s = some n → L19 (s, ()) = some (((n : Int), true, ()), ())) ∧ (tyb s = none → ∃ n, L19 (s, ()) = some ((n, false, ()), ())) := by
 have e : L19 (s, ()) = _ := F19_eq L38 L39 Lg19_7 s
 rw [L38_val] at e
 simp only [Option.bind_some] at e
 rw [look_named s] at e
 unfold tyb
 by_cases h1 : s = [102, 51, 50]
 ·rw [if_pos h1] at e ⊢
  exact ⟨fun n h => by injection h with h; rw [← h]; exact e, fun h => by cases h⟩
 ·rw [if_neg h1] at e ⊢
  by_cases h2 : s = [102, 54, 52]
  ·rw [if_pos h2] at e ⊢
   exact ⟨fun n h => by injection h with h; rw [← h]; exact e, fun h => by cases h⟩
  ·rw [if_neg h2] at e ⊢
   by_cases h3 : s = [112, 116, 114]
   ·rw [if_pos h3] at e ⊢
    exact ⟨fun n h => by injection h with h; rw [← h]; exact e, fun h => by cases h⟩
   ·rw [if_neg h3] at e ⊢
    rw [if_neg (show ¬ ((none : Option Int).isSome = true) by decide)] at e
    by_cases hlen : 2 ≤ s.length
    ·have g0 : (0 : Int) < (s.length : Int) := by omega
     have g1 : (1 : Int) ≤ (s.length : Int) := by omega
     have g2 : (1 : Int) < (s.length : Int) := by omega
     rw [if_neg (by simp; omega)] at e
     simp only [if_pos g0, if_pos g1, if_pos g2, if_pos (Int.le_refl _)] at e
     rw [beq117, beq105, beq48] at e
     by_cases hb : s.getD 1 0 = 48 → s = [117, 48]
     ·obtain ⟨n, k1, k2⟩ := L19_core s hl hlen hb
      have e2 : L19 (s, ()) = if (s.getD 0 0 = 117 ∨ s.getD 0 0 = 105) then some ((n, decide (nm (s.drop 1) = true ∧ numOf (s.drop 1) ≤ 64), ()), ()) else some ((0, false, ()), ()) := by
       rw [e, ← k1]
       have hb2 : ∀ x y : Option rs19.den, (if (s.getD 1 0 == 48) = true then (if (!(s == [117, 48])) = true then x else y) else y) = y := by
        intro x y
        by_cases q : s.getD 1 0 = 48
        ·rw [if_pos (by rw [q]; rfl), if_neg (by rw [hb q]; decide)]
        ·rw [if_neg (by rw [beq_iff_eq]; exact q)]
       rw [hb2]
       by_cases hu : s.getD 0 0 = 117
       ·rw [if_neg (by rw [hu]; decide), if_pos (.inl hu)]
       ·rw [if_pos (by rw [Bool.not_eq_true', beq_eq_false_iff_ne]; exact hu)]
        by_cases hi : s.getD 0 0 = 105
        ·rw [if_neg (by rw [hi]; decide), if_pos (.inr hi)]
        ·rw [if_pos (by rw [Bool.not_eq_true', beq_eq_false_iff_ne]; exact hi), if_neg (by rintro (h | h) <;> contradiction)]
      rw [e2]
      by_cases hw : wd s
      ·have hw' := (wd_iff s).1 hw
       rw [if_pos hw, if_pos hw'.2.1, k2 hw'.2.2.2, decide_eq_true hw'.2.2.2]
       exact ⟨fun n h => (by injection h with h; rw [← h]), fun h => (by cases h)⟩
      ·rw [if_neg hw]
       refine ⟨fun n h => (by cases h), fun _ => ?_⟩
       by_cases hu : s.getD 0 0 = 117 ∨ s.getD 0 0 = 105
       ·rw [if_pos hu, decide_eq_false fun q => hw ((wd_iff s).2 ⟨hlen, hu, hb, q.1, q.2⟩)]
        exact ⟨_, rfl⟩
       ·rw [if_neg hu]
        exact ⟨_, rfl⟩
     ·have hb1 : s.getD 1 0 = 48 := Decidable.byContradiction fun q => hb fun h => absurd h q
      have hb2 : ¬ s = [117, 48] := fun q => hb fun _ => q
      have hw : ¬ wd s := fun h => hb ((wd_iff s).1 h).2.2.1
      rw [if_neg hw]
      refine ⟨fun n h => (by cases h), fun _ => ⟨0, ?_⟩⟩
      rw [e]
      have q1 : (s.getD 1 0 == 48) = true := by rw [hb1]; rfl
      have q2 : (!(s == [117, 48])) = true := by rw [Bool.not_eq_true', beq_eq_false_iff_ne]; exact hb2
      rw [q1, q2]
      simp only [if_true]
      split
      ·split <;> rfl
      ·rfl
    ·have hw : ¬ wd s := fun h => hlen h.1
     rw [if_neg hw]
     rw [if_pos (by simp; omega)] at e
     exact ⟨fun n h => (by cases h), fun _ => ⟨_, e⟩⟩
theorem L5_val (s : List UInt8) (hl : s.length ≤ 1000) : L5 (s, ()) = some (szA (tyb s), ()) := by
 refine (F5_eq L19 s).trans ?_
 obtain ⟨k1, k2⟩ := L19_val s hl
 cases h : tyb s with
 | none =>
  obtain ⟨n, k2⟩ := k2 h
  rw [k2]
  rfl
 | some n =>
  rw [k1 n h]
  show some _ = _
  rw [size_form (tyb_le h)]
  rfl
def alg (n : Nat) : Nat := if n ≤ 1 then 1 else if n ≤ 2 then 2 else if n ≤ 4 then 4 else 8
theorem Lg20_2_val : ∀ n : Nat, n ≤ 8 → Lg20_2 (((n : Int), 1, ()), ()) = some (((alg n : Int), ()), ())
 | 0, _ => z0y 10 (by kernel_rfl)
 | 1, _ => z0y 10 (by kernel_rfl)
 | 2, _ => z0y 10 (by kernel_rfl)
 | 3, _ => z0y 10 (by kernel_rfl)
 | 4, _ => z0y 10 (by kernel_rfl)
 | 5, _ => z0y 10 (by kernel_rfl)
 | 6, _ => z0y 10 (by kernel_rfl)
 | 7, _ => z0y 10 (by kernel_rfl)
 | 8, _ => z0y 10 (by kernel_rfl)
 | n + 9, h => by omega
theorem Lg8_5_val : ∀ n : Nat, n ≤ 8 → Lg8_5 (((n : Int), 1, ()), ()) = some (((alg n : Int), ()), ())
 | 0, _ => z0y 10 (by kernel_rfl)
 | 1, _ => z0y 10 (by kernel_rfl)
 | 2, _ => z0y 10 (by kernel_rfl)
 | 3, _ => z0y 10 (by kernel_rfl)
 | 4, _ => z0y 10 (by kernel_rfl)
 | 5, _ => z0y 10 (by kernel_rfl)
 | 6, _ => z0y 10 (by kernel_rfl)
 | 7, _ => z0y 10 (by kernel_rfl)
 | 8, _ => z0y 10 (by kernel_rfl)
 | n + 9, h => by omega
theorem L20_val {n : Nat} (h : n ≤ 8) : L20 ((n : Int), ()) = some (((alg n : Int), ()), ()) := by
 refine (F20_eq Lg20_2 n).trans ?_
 rw [Lg20_2_val n h]
 rfl
def alA : Option Nat → Int × Int × Unit
 | some n => ((alg ((n + 7) / 8) : Nat), 0, ())
 | none => (0, 12, ())
theorem L8_val (s : List UInt8) : L8 (s, ()) = some (alA (tyb s), ()) := by
 refine (F8_eq L7 Lg8_5 s).trans ?_
 rw [L7_val]
 cases h : tyb s with
 | none => rfl
 | some n =>
  have := tyb_le h
  show (Lg8_5 (((((n + 7) / 8 : Nat) : Int), 1, ()), ())).bind _ = _
  rw [Lg8_5_val _ (by omega)]
  rfl
theorem L6_val (s : List UInt8) (hl : s.length ≤ 1000) : L6 (s, ()) = some (alA (tyb s), ()) := by
 refine (F6_eq L5 L20 s).trans ?_
 rw [L5_val s hl]
 cases h : tyb s with
 | none => rfl
 | some n =>
  have := tyb_le h
  show (L20 ((((n + 7) / 8 : Nat) : Int), ())).bind _ = _
  rw [L20_val (by omega)]
  rfl
end Go.Proofs.Rf
set_option linter.unusedVariables false
namespace Go.Proofs.Rf
open Go Go.RowKit
noncomputable def K38 : (SV.denL ps38) → Option (rs38).den := F38
theorem okK38 : z0c Tryd.prog 38 (mkCall ps38 rs38 K38) := call38
abbrev K39 : (SV.denL ps39) → Option (rs39).den := F39
theorem okK39 : z0c Tryd.prog 39 (mkCall ps39 rs39 K39) := call39
noncomputable def Kg19_7 : z3k.den → Option (denX w19_7) := iterL (S19_7) 100
noncomputable def K19 : (SV.denL ps19) → Option (rs19).den := F19 K38 K39 Kg19_7
theorem okK19 : z0c Tryd.prog 19 (mkCall ps19 rs19 K19) := call19 okK38 okK39 (z1x _ _)
noncomputable def K5 : (SV.denL ps5) → Option (rs5).den := F5 K19
theorem okK5 : z0c Tryd.prog 5 (mkCall ps5 rs5 K5) := call5 okK19
noncomputable def Kg20_2 : z3C.den → Option (denX w20_2) := iterL (S20_2) 100
noncomputable def K20 : (SV.denL ps20) → Option (rs20).den := F20 Kg20_2
theorem okK20 : z0c Tryd.prog 20 (mkCall ps20 rs20 K20) := call20 (z1x _ _)
noncomputable def K6 : (SV.denL ps6) → Option (rs6).den := F6 K5 K20
theorem okK6 : z0c Tryd.prog 6 (mkCall ps6 rs6 K6) := call6 okK20 okK5
noncomputable def K9 : (SV.denL ps9) → Option (rs9).den := F9
theorem okK9 : z0c Tryd.prog 9 (mkCall ps9 rs9 K9) := call9
noncomputable def Kg22_2 : z5b.den → Option (denX w22_2) := iterL (S22_2) 100
noncomputable def K22 : (SV.denL ps22) → Option (rs22).den := F22 Kg22_2
theorem okK22 : z0c Tryd.prog 22 (mkCall ps22 rs22 K22) := call22 (z1x _ _)
noncomputable def K23 : (SV.denL ps23) → Option (rs23).den := F23
theorem okK23 : z0c Tryd.prog 23 (mkCall ps23 rs23 K23) := call23
noncomputable def Kg51_2 : z4V.den → Option (denX w51_2) := iterL (S51_2) 100
noncomputable def K51 : (SV.denL ps51) → Option (rs51).den := F51 Kg51_2
theorem okK51 : z0c Tryd.prog 51 (mkCall ps51 rs51 K51) := call51 (z1x _ _)
noncomputable def K41 : (SV.denL ps41) → Option (rs41).den := F41 K51
theorem okK41 : z0c Tryd.prog 41 (mkCall ps41 rs41 K41) := call41 okK51
noncomputable def K24 : (SV.denL ps24) → Option (rs24).den := F24 K41
theorem okK24 : z0c Tryd.prog 24 (mkCall ps24 rs24 K24) := call24 okK41
noncomputable def K25 : (SV.denL ps25) → Option (rs25).den := F25
theorem z4E : z0c Tryd.prog 25 (mkCall ps25 rs25 K25) := call25
noncomputable def K37 : (SV.denL ps37) → Option (rs37).den := F37
theorem okK37 : z0c Tryd.prog 37 (mkCall ps37 rs37 K37) := call37
noncomputable def K26 : (z5m.den) → Option (rs26).den := F26 K25 K37
theorem okK26 : z0c Tryd.prog 26 (mkCallB z5m rs26 m26 1 K26) := call26 z4E okK37
noncomputable def K10 : (psh10.den) → Option (rs10).den := F10 K22 K23 K24 K25 K26
theorem okK10 : z0c Tryd.prog 10 (mkCallB psh10 rs10 m10 1 K10) := call10 okK22 okK23 okK24 z4E okK26
noncomputable def K11 : (SV.denL ps11) → Option (rs11).den := F11
theorem okK11 : z0c Tryd.prog 11 (mkCall ps11 rs11 K11) := call11
noncomputable def K27 : (SV.denL ps27) → Option (rs27).den := F27 K5 K20
theorem okK27 : z0c Tryd.prog 27 (mkCall ps27 rs27 K27) := call27 okK20 okK5
noncomputable def K42 : (SV.denL ps42) → Option (rs42).den := F42
theorem okK42 : z0c Tryd.prog 42 (mkCall ps42 rs42 K42) := call42
noncomputable def K34 : (SV.denL ps34) → Option (rs34).den := F34 K25
theorem okK34 : z0c Tryd.prog 34 (mkCall ps34 rs34 K34) := call34 z4E
noncomputable def K52 : (SV.denL ps52) → Option (rs52).den := F52 K25 K34
theorem okK52 : z0c Tryd.prog 52 (mkCall ps52 rs52 K52) := call52 z4E okK34
noncomputable def K53 : (SV.denL ps53) → Option (rs53).den := F53
theorem okK53 : z0c Tryd.prog 53 (mkCall ps53 rs53 K53) := call53
noncomputable def K54 : (SV.denL ps54) → Option (rs54).den := F54
theorem okK54 : z0c Tryd.prog 54 (mkCall ps54 rs54 K54) := call54
noncomputable def K55 : (SV.denL ps55) → Option (rs55).den := F55
theorem okK55 : z0c Tryd.prog 55 (mkCall ps55 rs55 K55) := call55
noncomputable def Kg28_4 : z5a.den → Option (denX w28_4) := iterL (S28_4 K52 K53 K54 K55) 100
noncomputable def K28 : (SV.denL ps28) → Option (rs28).den := F28 K42 Kg28_4
theorem okK28 : z0c Tryd.prog 28 (mkCall ps28 rs28 K28) := call28 okK42 okK52 okK53 okK54 okK55 (z1x _ _)
noncomputable def K29 : (z5l.den) → Option (rs29).den := F29
theorem okK29 : z0c Tryd.prog 29 (mkCallB z5l rs29 m29 1 K29) := call29
noncomputable def K47 : (SV.denL ps47) → Option (rs47).den := F47 K19
theorem okK47 : z0c Tryd.prog 47 (mkCall ps47 rs47 K47) := call47 okK19
noncomputable def K43 : (SV.denL ps43) → Option (rs43).den := F43 K34 K47
theorem okK43 : z0c Tryd.prog 43 (mkCall ps43 rs43 K43) := call43 okK34 okK47
noncomputable def K44 : (SV.denL ps44) → Option (rs44).den := F44
theorem okK44 : z0c Tryd.prog 44 (mkCall ps44 rs44 K44) := call44
noncomputable def K64 : (SV.denL ps64) → Option (rs64).den := F64
theorem okK64 : z0c Tryd.prog 64 (mkCall ps64 rs64 K64) := call64
noncomputable def K57 : (SV.denL ps57) → Option (rs57).den := F57 K64
theorem okK57 : z0c Tryd.prog 57 (mkCall ps57 rs57 K57) := call57 okK64
noncomputable def Kg45_8 : z4W.den → Option (denX w45_8) := iterL (S45_8) 100
noncomputable def K45 : (SV.denL ps45) → Option (rs45).den := F45 K57 Kg45_8
theorem okK45 : z0c Tryd.prog 45 (mkCall ps45 rs45 K45) := call45 okK57 (z1x _ _)
noncomputable def KD56 : Dt56 := colK (B56) (Y56) 100
theorem okKI56 : z4D Tryd.prog 56 z6C (cap56 KD56) := it56 (coll_colK _ _ _)
noncomputable def Kg30_10 : List El56 → z2m.den → Option (z2m.den ⊕ denX z6k) := foldR (S30_10)
noncomputable def Kg30_3 : z4Z.den → Option (denX w30_3) := iterL (S30_3) 100
noncomputable def K30 : (SV.denL ps30) → Option (rs30).den := F30 K25 K43 K44 K45 KD56 Kg30_10 Kg30_3
theorem okK30 : z0c Tryd.prog 30 (mkCall ps30 rs30 K30) := call30 okKI56 z4E okK43 okK44 okK45 rfl (z1x _ _)
noncomputable def K12 : (psh12.den) → Option (rs12).den := F12 K27 K28 K29 K30
theorem okK12 : z0c Tryd.prog 12 (mkCallB psh12 rs12 m12 1 K12) := call12 okK27 okK28 okK29 okK30
noncomputable def K29v : (SV.denL ps29v) → Option (rs29v).den := F29v
theorem okK29v : z0c Tryd.prog 29 (mkCall ps29v rs29v K29v) := call29v
noncomputable def Kg46_5 : List El56 → z3j.den → Option (z3j.den ⊕ denX w46_5) := foldR (S46_5 K25)
noncomputable def K46 : (SV.denL ps46) → Option (rs46).den := F46 K25 K44 KD56 Kg46_5
theorem okK46 : z0c Tryd.prog 46 (mkCall ps46 rs46 K46) := call46 okKI56 z4E okK44 rfl
noncomputable def Kg31_9 : z4Y.den → Option (denX w31_9) := iterL (S31_9) 100
noncomputable def K31 : (SV.denL ps31) → Option (rs31).den := F31 K25 K46 K47 Kg31_9
theorem okK31 : z0c Tryd.prog 31 (mkCall ps31 rs31 K31) := call31 z4E okK46 okK47 (z1x _ _)
noncomputable def K13 : (SV.denL ps13) → Option (rs13).den := F13 K25 K27 K28 K29v K31
theorem okK13 : z0c Tryd.prog 13 (mkCall ps13 rs13 K13) := call13 z4E okK27 okK28 okK29v okK31
noncomputable def Kg32_2 : z4X.den → Option (denX w32_2) := iterL (S32_2) 100
noncomputable def K32 : (SV.denL ps32) → Option (rs32).den := F32 Kg32_2
theorem okK32 : z0c Tryd.prog 32 (mkCall ps32 rs32 K32) := call32 (z1x _ _)
noncomputable def K33 : (SV.denL ps33) → Option (rs33).den := F33
theorem okK33 : z0c Tryd.prog 33 (mkCall ps33 rs33 K33) := call33
noncomputable def K14 : (psh14.den) → Option (rs14).den := F14 K28 K29 K32 K33
theorem okK14 : z0c Tryd.prog 14 (mkCallB psh14 rs14 m14 1 K14) := call14 okK28 okK29 okK32 okK33
noncomputable def K35 : (SV.denL ps35) → Option (rs35).den := F35 K25
theorem okK35 : z0c Tryd.prog 35 (mkCall ps35 rs35 K35) := call35 z4E
noncomputable def K15 : (SV.denL ps15) → Option (rs15).den := F15 K25 K34 K35
theorem okK15 : z0c Tryd.prog 15 (mkCall ps15 rs15 K15) := call15 z4E okK34 okK35
noncomputable def K36 : (psh36.den) → Option (rs36).den := F36 K37
theorem okK36 : z0c Tryd.prog 36 (mkCallB psh36 rs36 m36 1 K36) := call36 okK37
noncomputable def K16 : (psh16.den) → Option (rs16).den := F16 K25 K34 K36
theorem okK16 : z0c Tryd.prog 16 (mkCallB psh16 rs16 m16 1 K16) := call16 z4E okK34 okK36
noncomputable def K17 : (psh17.den) → Option (rs17).den := F17 K24 K25 K26 K37
theorem okK17 : z0c Tryd.prog 17 (mkCallB psh17 rs17 m17 1 K17) := call17 okK24 z4E okK26 okK37
noncomputable def K18 : (SV.denL ps18) → Option (rs18).den := F18
theorem okK18 : z0c Tryd.prog 18 (mkCall ps18 rs18 K18) := call18
noncomputable def K4 : (SV.denL ps4) → Option (rs4).den := F4 K5 K6 K9 K10 K11 K12 K13 K14 K15 K16 K17 K18
theorem okK4 : z0c Tryd.prog 4 (mkCall ps4 rs4 K4) := call4 okK10 okK11 okK12 okK13 okK14 okK15 okK16 okK17 okK18 okK5 okK6 okK9
end Go.Proofs.Rf
namespace Go.Proofs.Rf
open Go Go.RowKit
def iNone : Nat → Option Value := fun _ => none
def cDead : Nat → Blk := fun _ => .dead
theorem z3e {ι : Nat → Option Value} {b : Nat} : ¬ owned ι cDead b := by
 rintro ⟨k, hk⟩
 rw [z0P rfl] at hk
 cases hk
theorem HRel.start (w : World) (hg : GlOK w (fun b => b < w.heap.size)) : HRel (fun _ => False) (fun b => b < w.heap.size) w iNone cDead w :=
 ⟨fun k => trivial, fun k k' b h1 _ => (by rw [z0P rfl] at h1; cases h1), Kept.refl _ _, fun b hb => (z3e hb).elim, fun b hb => hb, fun b hb => (z3e hb).elim, fun b hb => hb.elim, hg.mono fun g q => ⟨⟨q, z3e, fun q => q⟩, rfl⟩⟩
theorem law_walk {P : Program} {f : Nat} {ps : List SV} {F : SV.denL ps → Option (Shape.den ⟨[(0, .d false .bool)], []⟩)} (h : z0c P f (mkCall ps ⟨[(0, .d false .bool)], []⟩ F)) (w : World) {args : List AV} {vs : List Value} {x : SV.denL ps} {fz : List (Nat × Blk)}
  (ht : SV.takeL cDead [] ps args = some (x, fz)) (hF : F x = some ((true, ()), ())) (hrel : RelL w (fun b => b < w.heap.size) iNone args vs) (hg : GlOK w (fun b => b < w.heap.size)) : Calls P f vs.toArray w fun e w' => e = .returned (.bool true) ∧ Below w.heap.size w w' := by
 have hok : okb (fun _ => False) w iNone cDead = fun b => b < w.heap.size := by
  funext b
  exact propext ⟨fun q => q.1, fun q => ⟨q, z3e, fun q => q⟩⟩
 have hco : mkCall ps ⟨[(0, .d false .bool)], []⟩ F args cDead 0 Eff some = some ⟨.d .bool true, [], []⟩ := by
  unfold mkCall
  rw [ht]
  simp only [hF]
  rfl
 refine (h.run _ _ w w iNone cDead 0 args vs _ (HRel.start w hg) (by rw [hok]; exact hrel) hco (fun _ _ _ => rfl)).mono ?_
 rintro e w' ⟨v, rfl, ι', H, E, hv, _⟩
 have hv := z0r.1 hv
 exact ⟨by rw [hv], H.fr.os, H.fr.tape, H.fr.output, H.fr.size, fun i hi => H.fr.block i hi hi⟩
end Go.Proofs.Rf
namespace Go.Proofs.Rf
open Go Go.RowKit Go.ChangeShapes Go.WideShapes
def fitK (k : IntKind) (n : Int) : Prop := k.min ≤ n ∧ n ≤ k.max
def Ty.fit : (t : Ty) → t.den → Prop
 | .int k, n => fitK k n
 | .str, s => s.length ≤ maxLen
 | .sl t, xs => xs.length ≤ maxLen ∧ ∀ x ∈ xs, t.fit x
 | .pr a b, x => a.fit x.1 ∧ b.fit x.2
 | _, _ => True
def tyFs (g : Nat → Option Ty) (c : Nat → Nat) : Nat → List Field → Option (List Ty)
 | _, [] => some []
 | o, f :: r => match g f.type with
  | some ty => if (Nat.beq f.offset o && Nat.beq (c f.type) ty.size) = true then (match tyFs g c (o + ty.size) r with
   | some ts => some (ty :: ts)
   | none => none) else none
  | none => none
def goodTy (P : Program) : Nat → Nat → Option Ty
 | 0, _ => none
 | k + 1, t => match P.underlying t with
  | some (.int i) => some (.int i)
  | some .bool => some .bool
  | some .string => some .str
  | some (.slice e) => (match goodTy P k e with
   | some ty => if (Nat.blt 0 ty.size && Nat.beq (P.cellsOf e) ty.size) = true then some (.sl ty) else none
   | none => none)
  | some (.struct fields) => (match tyFs (goodTy P k) P.cellsOf 0 fields.toList with
   | some ts => if Nat.beq (P.cellsOf t) (prL ts).size = true then some (prL ts) else none
   | none => none)
  | _ => none
section
variable {H : Type} {enc : TypeId × Value → H} {P : Program} {w : World} {sp : Nat → Bool} {held : Bool}
theorem cells_get {a : Addr} {n : Nat} {cs : List Value} (h : w.cells? 0 a n = some cs) : cs.length = n ∧ ∀ j u, cs[j]? = some u → w.cell? (a.add j) = some u := by
 unfold World.cells? at h
 rw [if_pos (Nat.zero_le _)] at h
 have hl := mapM_some_length h
 rw [List.length_range] at hl
 refine ⟨hl, fun j u hu => ?_⟩
 have hj : j < n := by
  rw [← hl]
  exact (List.getElem?_eq_some_iff.1 hu).1
 have := mapM_some_get h j j (by simp [hj])
 rw [hu] at this
 exact this
theorem add_plain (g o j : Nat) : Addr.add ⟨g, o, none⟩ j = ⟨g, o + j, none⟩ := by
 unfold Addr.add
 split
 ·rename_i h
  rw [h]; rfl
 ·rfl
theorem add_two (a : Addr) {m r j : Nat} (h : m + r = j) : (a.add m).add r = a.add j := by
 subst h
 unfold Addr.add
 by_cases h1 : m = 0
 ·subst h1
  simp
 ·by_cases h2 : r = 0
  ·subst h2
   simp [h1]
  ·rw [if_neg h1, if_neg h2, if_neg (by omega), Nat.add_assoc]
theorem cell_place {a : Addr} {u : Value} (h : w.cell? a = some u) : a.spot = none ∧ a.block < w.heap.size := by
 refine ⟨World.cell?_spot h, ?_⟩
 unfold World.cell? at h
 split at h
 ·rename_i h1
  exact (Array.getElem?_eq_some_iff.1 h1).1
 ·cases h
theorem rowL {α : Type} {D : α → List Value → Prop} {Q : α → Prop} {n : Nat} (at_ : Nat → Option (List Value)) : ∀ (len k : Nat), (∀ i, i < len → ∃ cs x, at_ (k + i) = some cs ∧ cs.length = n ∧ D x cs ∧ Q x) →
  ∃ (xs : List α) (cs : List Value), xs.length = len ∧ RzL D xs cs ∧ cs.length = len * n ∧ (∀ x ∈ xs, Q x) ∧ ∀ i j c, i < len → at_ (k + i) = some c → j < n → cs[i * n + j]? = c[j]?
 | 0, k, _ => ⟨[], [], rfl, rfl, by simp, by simp, fun i j c hi => by omega⟩
 | len + 1, k, h => by
  obtain ⟨c0, x0, h0, hl0, hd0, hq0⟩ := h 0 (by omega)
  obtain ⟨xs, cs, hxl, hr, hcl, hq, hg⟩ := rowL at_ len (k + 1) (fun i hi => by
   obtain ⟨c, x, h1, h2⟩ := h (i + 1) (by omega)
   exact ⟨c, x, by rw [show k + 1 + i = k + (i + 1) by omega]; exact h1, h2⟩)
  refine ⟨x0 :: xs, c0 ++ cs, by simp [hxl], ⟨c0, cs, rfl, hd0, hr⟩, by rw [List.length_append, hl0, hcl, Nat.add_mul]; omega, ?_, ?_⟩
  ·intro x hx
   rcases List.mem_cons.1 hx with rfl | hx
   ·exact hq0
   ·exact hq x hx
  ·intro i j c hi hc hj
   cases i with
   | zero =>
    rw [Nat.add_zero] at h0 hc
    rw [h0] at hc
    cases hc
    rw [Nat.zero_mul, Nat.zero_add, List.getElem?_append_left (by omega)]
   | succ i =>
    rw [List.getElem?_append_right (by rw [hl0, Nat.add_mul]; omega), show (i + 1) * n + j - c0.length = i * n + j by rw [hl0, Nat.add_mul]; omega]
    exact hg i j c (by omega) (by rw [show k + 1 + i = k + (i + 1) by omega]; exact hc) hj
theorem z5E {g : Nat → Option Ty} {c : Nat → Nat} {cs : List Value} {D : Nat → List Value → Prop} (ho : ∀ t ty us, g t = some ty → D t us → ∃ x : ty.den, Rz w (fun b => b < w.heap.size) ty x us ∧ ty.fit x) :
  ∀ (fs : List Field) (ts : List Ty) (o : Nat), tyFs g c o fs = some ts → (∀ f ∈ fs, D f.type ((cs.drop f.offset).take (c f.type))) → (cs.drop o).length = (prL ts).size →
   ∃ x : (prL ts).den, Rz w (fun b => b < w.heap.size) (prL ts) x (cs.drop o) ∧ (prL ts).fit x
 | [], ts, o, ht, _, hl => by
  cases ht
  exact ⟨(), List.eq_nil_of_length_eq_zero hl, trivial⟩
 | f :: r, ts, o, ht, hD, hl => by
  unfold tyFs at ht
  split at ht
  ·rename_i ty hty
   split at ht
   ·rename_i hc
    split at ht
    ·rename_i ts' hts
     cases ht
     simp only [Bool.and_eq_true] at hc
     have ho' := Nat.eq_of_beq_eq_true hc.1
     have hs := Nat.eq_of_beq_eq_true hc.2
     have hd := hD f (by simp)
     rw [ho', hs] at hd
     obtain ⟨x, hx, hf⟩ := ho _ _ _ hty hd
     cases ts' with
     | nil =>
      have hl : _ = ty.size := hl
      rw [List.take_of_length_le (by omega)] at hx
      exact ⟨x, hx, hf⟩
     | cons b r' =>
      have hl : _ = ty.size + (prL (b :: r')).size := hl
      obtain ⟨y, hy, hg⟩ := z5E ho r (b :: r') (o + ty.size) hts (fun f hf => hD f (by simp [hf])) (by rw [← List.drop_drop, List.length_drop]; omega)
      exact ⟨(x, y), ⟨_, _, by rw [← List.drop_drop, List.take_append_drop], hx, hy⟩, hf, hg⟩
    ·cases ht
   ·cases ht
  ·cases ht
theorem z4k : ∀ (k : Nat) (t : Nat) (ty : Ty), goodTy P k t = some ty → ∀ (fuel : Nat) (cs : List Value) (d : DataW H × List MemPlace), DataW.trod enc P w 0 sp held fuel t cs = some d →
  ∃ x : ty.den, Rz w (fun b => b < w.heap.size) ty x cs ∧ ty.fit x
 | 0, t, ty, hty, _, _, _, _ => by cases hty
 | k + 1, t, ty, hty, fuel, cs, d, h => by
  unfold goodTy at hty
  split at hty
  ·rename_i i hu
   cases hty
   obtain ⟨n, rfl, _, hw⟩ := DataW.trod_int hu h
   simp only [Lit.wf, Bool.and_eq_true, decide_eq_true_eq] at hw
   exact ⟨n, rfl, hw⟩
  ·rename_i hu
   cases hty
   obtain ⟨b, rfl, _⟩ := DataW.trod_bool hu h
   exact ⟨b, rfl, trivial⟩
  ·rename_i hu
   cases hty
   obtain ⟨s, rfl, _, hs⟩ := DataW.trod_string hu h
   refine ⟨s.data.toList, ?_, ?_⟩
   ·show _ = _
    cases s
    rfl
   ·show _ ≤ _
    rw [Array.length_toList]
    exact hs
  ·rename_i e hu
   split at hty
   ·rename_i te hte
    split at hty
    ·rename_i hc
     cases hty
     simp only [Bool.and_eq_true] at hc
     have hpos : 0 < te.size := Nat.le_of_ble_eq_true hc.1
     have hsz := Nat.eq_of_beq_eq_true hc.2
     rcases DataW.trod_slice hu h with ⟨rfl, _⟩ | ⟨a, len, cap, elems, rest, n, _, rfl, _, _, hlc, hcm, hel, hget, _, _⟩
     ·exact ⟨[], ⟨none, 0, rfl, Nat.le_refl _, fun hp => by simp at hp⟩, by simp [Ty.fit]⟩
     ·have hrow : ∀ i, i < len → ∃ cs x, (fun i => w.cells? 0 (a.add (i * te.size)) te.size) (0 + i) = some cs ∧ cs.length = te.size ∧ Rz w (fun b => b < w.heap.size) te x cs ∧ te.fit x := by
       intro i hi
       have hg := hget i hi
       rw [hsz, List.getElem?_eq_getElem (by omega)] at hg
       obtain ⟨c, h1, h2⟩ := Option.bind_eq_some_iff.1 hg
       obtain ⟨x, hx, hf⟩ := z4k k e te hte n c _ h2
       exact ⟨c, x, by rw [Nat.zero_add]; exact h1, (cells_get h1).1, hx, hf⟩
      obtain ⟨xs, cs, hxl, hr, hcl, hq, hg⟩ := rowL (fun i => w.cells? 0 (a.add (i * te.size)) te.size) len 0 hrow
      refine ⟨xs, ⟨some a, cap, by rw [hxl], by rw [hxl]; exact hlc, fun hp => ?_⟩, by rw [hxl]; omega, hq⟩
      rw [hxl] at hp
      have hcell : ∀ j u, cs[j]? = some u → w.cell? (a.add j) = some u := by
       intro j u hu
       have hj : j < len * te.size := by rw [← hcl]; exact (List.getElem?_eq_some_iff.1 hu).1
       have hi : j / te.size < len := Nat.div_lt_of_lt_mul (by rw [Nat.mul_comm]; exact hj)
       obtain ⟨c, _, h1, hl, _⟩ := hrow (j / te.size) hi
       have hjm : j % te.size < te.size := Nat.mod_lt _ hpos
       have e1 : j / te.size * te.size + j % te.size = j := by rw [Nat.mul_comm]; exact Nat.div_add_mod _ _
       have := hg (j / te.size) (j % te.size) c hi h1 hjm
       rw [e1, hu] at this
       rw [Nat.zero_add] at h1
       have h3 := (cells_get h1).2 (j % te.size) u this.symm
       have e2 : (a.add (j / te.size * te.size)).add (j % te.size) = a.add j := add_two a e1
       rw [← e2]
       exact h3
      have h0 : ∃ u, cs[0]? = some u := by
       refine ⟨_, List.getElem?_eq_getElem ?_⟩
       rw [hcl]
       exact Nat.mul_pos hp hpos
      obtain ⟨u, hu⟩ := h0
      have hp := cell_place (hcell 0 u hu)
      obtain ⟨g, o, s⟩ := a
      obtain ⟨hp1, hp2⟩ := hp
      have hs : s = none := hp1
      subst hs
      exact ⟨g, o, cs, rfl, hp2, hr, fun j u hu => by rw [← add_plain]; exact hcell j u hu⟩
    ·cases hty
   ·cases hty
  ·rename_i fields hu
   split at hty
   ·rename_i ts hts
    split at hty
    ·rename_i hc
     cases hty
     obtain ⟨xs, n, _, _, hlen, _, hf⟩ := DataW.trod_struct hu h
     rw [Nat.eq_of_beq_eq_true hc] at hlen
     have hf : ∀ f ∈ fields.toList, ∃ y, DataW.trod enc P w 0 sp held n f.type ((cs.drop f.offset).take (P.cellsOf f.type)) = some y := by
      intro f hm
      obtain ⟨i, hi, e⟩ := List.getElem_of_mem hm
      have hi' : i < fields.size := by simpa using hi
      have e' : fields[i]? = some f := by rw [Array.getElem?_eq_getElem hi']; simp only [← e, Array.getElem_toList]
      have := hf i f e'
      rw [this]
      exact ⟨xs[i]'(by omega), List.getElem?_eq_getElem _⟩
     have := z5E (cs := cs) (D := fun t us => ∃ y, DataW.trod enc P w 0 sp held n t us = some y) (fun t ty us h1 ⟨y, h2⟩ => z4k k t ty h1 n us y h2) fields.toList ts 0 hts hf (by rw [List.drop_zero]; exact hlen)
     rw [List.drop_zero] at this
     exact this
    ·cases hty
   ·cases hty
  ·cases hty
def aggB (P : Program) (t : Nat) : Bool := match P.underlying t with
 | some (.struct _) => true
 | _ => false
theorem z2E : ∀ (t : Ty), t.eqv t = some ⟨rfl⟩
 | .int k => by
  have : ikEq k k = true := by cases k <;> rfl
  simp [Ty.eqv, this]
 | .bool => rfl
 | .str => rfl
 | .sl t => by
  unfold Ty.eqv
  rw [z2E t]
 | .pr a b => by
  unfold Ty.eqv
  rw [z2E a, z2E b]
 | .un => rfl
 | .ic => rfl
 | .fv => rfl
 | .fk f => by simp [Ty.eqv]
 | .tr a b => by
  unfold Ty.eqv
  rw [z2E a, z2E b]
theorem z2C (C : Nat → Blk) : ∀ (t : Ty) (x : t.den) (r : List AV), pack C t (unpack t x ++ r) = some (x, r, [])
 | .int k, x, r => by
  have : dat1 C (.int k) (.d (.int k) x) = some (x, []) := by
   show (if ikEq k k = true then some (x, []) else none) = _
   rw [if_pos (by cases k <;> rfl)]
  show (match dat1 C (.int k) (.d (.int k) x) with | some (x, f) => some (x, r, f) | none => none) = _
  rw [this]
 | .bool, x, r => rfl
 | .str, x, r => rfl
 | .sl t, x, r => by
  have : dat1 C (.sl t) (.d (.sl t) x) = some (x, []) := by
   simp only [dat1, z2E]
   rfl
  show (match dat1 C (.sl t) (.d (.sl t) x) with | some (x, f) => some (x, r, f) | none => none) = _
  rw [this]
 | .pr a b, x, r => by
  show pack C (.pr a b) ((unpack a x.1 ++ unpack b x.2) ++ r) = _
  rw [List.append_assoc]
  unfold pack
  rw [z2C C a x.1]
  simp only
  rw [z2C C b x.2]
  rfl
 | .un, x, r => rfl
 | .ic, x, r => rfl
 | .fv, x, r => rfl
 | .fk f, x, r => by
  have : dat1 C (.fk f) (.fn f []) = some ((), []) := by
   show (if Nat.beq f f = true then some ((), []) else none) = _
   rw [if_pos (Nat.beq_refl f)]
  show (match dat1 C (.fk f) (.fn f []) with | some (x, f) => some (x, r, f) | none => none) = _
  rw [this]
 | .tr a b, x, r => by
  have : dat1 C (.tr a b) (.d (.tr a b) x) = some (x, []) := by
   simp only [dat1, z2E]
   rfl
  show (match dat1 C (.tr a b) (.d (.tr a b) x) with | some (x, f) => some (x, r, f) | none => none) = _
  rw [this]
theorem dat_ag (C : Nat → Blk) (t : Ty) (x : t.den) : dat C t (.ag (unpack t x)) = some (x, []) := by
 have := z2C C t x []
 rw [List.append_nil] at this
 show (match pack C t (unpack t x) with | some (x, [], f) => some (x, f) | _ => none) = _
 rw [this]
theorem take_ag (C : Nat → Blk) (t : Ty) (x : t.den) : SV.take C [] (.d true t) (.ag (unpack t x)) = some (x, []) := dat_ag C t x
theorem take_one (C : Nat → Blk) (t : Ty) (x : t.den) (h : unpack t x = [.d t x]) : SV.take C [] (.d false t) (.d t x) = some (x, []) := by
 have := z2C C t x []
 rw [List.append_nil, h] at this
 show (match pack C t [.d t x] with | some (x, [], f) => some (x, f) | _ => none) = _
 rw [this]
theorem open_arg {r : Reach} {b0 k t : Nat} {ty : Ty} {v : Value} {d : DataW H} {ps : List MemPlace} (hg : goodTy P (k + 1) t = some ty) (hv : Value.okWide P w r b0 t v) (hd : DataW.Trod enc P w 0 sp held t v d ps) :
  ∃ (a : AV) (x : ty.den), RelV w (fun b => b < w.heap.size) iNone a v ∧ SV.take cDead [] (.d (aggB P t) ty) a = some (x, []) ∧ ty.fit x := by
 obtain ⟨fuel, hf⟩ := hd
 obtain ⟨x, hx, hfit⟩ := z4k (k + 1) t ty hg fuel _ _ hf
 unfold goodTy at hg
 unfold aggB
 split at hg
 ·rename_i i hu
  cases hg
  obtain ⟨n, rfl⟩ := okWide_int hu hv
  rw [hu]
  exact ⟨_, x, by simp only [RelV]; exact hx, take_one _ _ x rfl, hfit⟩
 ·rename_i hu
  cases hg
  obtain ⟨n, rfl⟩ := okWide_bool hu hv
  rw [hu]
  exact ⟨_, x, by simp only [RelV]; exact hx, take_one _ _ x rfl, hfit⟩
 ·rename_i hu
  cases hg
  obtain ⟨n, rfl⟩ := okWide_string hu hv
  rw [hu]
  exact ⟨_, x, by simp only [RelV]; exact hx, take_one _ _ x rfl, hfit⟩
 ·rename_i e hu
  split at hg
  ·split at hg
   ·cases hg
    obtain ⟨a, l, c, rfl⟩ := okWide_slice hu hv
    rw [hu]
    exact ⟨_, x, by simp only [RelV]; exact hx, take_one _ _ x rfl, hfit⟩
   ·cases hg
  ·cases hg
 ·rename_i fs hu
  split at hg
  ·split at hg
   ·cases hg
    obtain ⟨cs, rfl, _⟩ := okWide_struct hu hv
    rw [hu]
    have hx : Rz _ _ _ x cs.toList := hx
    exact ⟨_, x, by simp only [RelV]; exact ⟨cs.toList, by simp, z0C _ _ _ hx⟩, take_ag _ _ x, hfit⟩
   ·cases hg
  ·cases hg
 ·cases hg
def argsOf (P : Program) : List Nat → Option (List SV)
 | [] => some []
 | t :: r => match goodTy P 16 t with
  | some ty => match argsOf P r with
   | some s => some (.d (aggB P t) ty :: s)
   | none => none
  | none => none
def fitDL : (l : List SV) → SV.denL l → Prop
 | [], _ => True
 | .d _ t :: r, x => t.fit x.1 ∧ fitDL r x.2
 | _ :: _, _ => False
theorem open_args {r : Reach} {b0 : Nat} : ∀ (ts : List TypeId) (vs : List Value) (ds : List (DataW H)) (ps : List MemPlace), DataW.TrodAll enc P w 0 sp held ts vs ds ps →
  (∀ (j : Nat) t v, ts[j]? = some t → vs[j]? = some v → Value.okWide P w r b0 t v) → ∀ (svs : List SV), argsOf P ts = some svs →
  ∃ (avs : List AV) (x : SV.denL svs), RelL w (fun b => b < w.heap.size) iNone avs vs ∧ SV.takeL cDead [] svs avs = some (x, []) ∧ fitDL svs x
 | [], vs, ds, ps, h, _, svs, hs => by
  obtain ⟨rfl, _, _⟩ := trodAll_nil h
  cases hs
  exact ⟨[], (), z0b.2 rfl, rfl, trivial⟩
 | t :: ts, vs, ds, ps, h, hv, svs, hs => by
  obtain ⟨v, vs', d, ds', p, q, rfl, rfl, rfl, hd, hr⟩ := trodAll_cons h
  unfold argsOf at hs
  split at hs
  ·rename_i ty hty
   split at hs
   ·rename_i s hs'
    cases hs
    obtain ⟨a, x, h1, h2, h3⟩ := open_arg hty (hv 0 t v rfl rfl) hd
    obtain ⟨avs, y, h4, h5, h6⟩ := open_args ts vs' ds' q hr (fun j t' v' h7 h8 => hv (j + 1) t' v' h7 h8) s hs'
    refine ⟨a :: avs, (x, y), z0a.2 ⟨v, vs', rfl, h1, h4⟩, ?_, h3, h6⟩
    unfold SV.takeL
    rw [h2]
    simp only
    rw [h5]
    rfl
   ·cases hs
  ·cases hs
theorem shut_args {W W' : World} (hl : laidOutB P = true) (hb : Below W.heap.size W W') : ∀ (ts : List TypeId) (vs : List Value) (ds : List (DataW H)) (ps : List MemPlace), (∀ t ∈ ts, P.readableRec t = true ∧ t < P.types.size) →
  DataW.TrodAll enc P W 0 (fun _ => true) true ts vs ds ps → DataW.TrodAll enc P W' 0 (fun b => decide (b < W.heap.size)) true ts vs ds ps
 | [], vs, ds, ps, _, h => by
  obtain ⟨rfl, rfl, rfl⟩ := trodAll_nil h
  exact trodAll_mk0
 | t :: ts, vs, ds, ps, ht, h => by
  obtain ⟨v, vs', d, ds', p, q, rfl, rfl, rfl, hd, hr⟩ := trodAll_cons h
  have lt : ∀ x ∈ p, x.block < W.heap.size := by
   obtain ⟨m, hm⟩ := hd
   exact DataW.trod_lt m _ _ _ hm
  exact trodAll_cons_mk (Below.trod hl (ht t (by simp)).1 (ht t (by simp)).2 hd hb lt) (shut_args hl hb ts vs' ds' q (fun t' h' => ht t' (by simp [h'])) hr)
end
end Go.Proofs.Rf
namespace Go.Proofs.Rf
open Go Go.RowKit
theorem K4_val : K4 () = some ((true, ()), ()) := by kernel_rfl
noncomputable def law3 : (SV.denL ps3) → Option (rs3).den := F3 K4 L5 L6 L7 L8
theorem law3_ok : z0c Tryd.prog 3 (mkCall ps3 rs3 law3) := call3 okK4 okL5 okL6 okL7 okL8
theorem law3_true (s : List UInt8) : law3 (s, ()) = some ((true, ()), ()) := by
 refine (F3_eq K4 L5 L6 L7 L8 s).trans ?_
 by_cases h : (s.length : Int) > 200
 ·rw [if_pos (decide_eq_true h), show K4 () = _ from K4_val]
  rfl
 ·rw [if_neg (by rw [decide_eq_true_eq]; exact h), L5_val s (by omega), L6_val s (by omega), L7_val s, L8_val s, show K4 () = _ from K4_val]
  simp only [Option.bind_some]
  rw [if_pos (by simp), if_pos (by simp), if_pos (by simp), if_pos (by simp)]
end Go.Proofs.Rf
namespace Go.Proofs.Rf
open Go Go.ChangeShapes Go.WideShapes Go.ChangeAt Go.RowKit
abbrev z6w : List (String × DataW Unit) := Go.Proofs.YtdecfjlhidgceaaDoor.Rows.memoryTypesRow.laid
theorem var_block {W : World} {name : String} {g : Nat} {us : List Value} (hg : Tryd.prog.globalNamed name = some g) (hv : W.var? Tryd.prog name = some us.toArray) : ∃ e fz, W.heap[g]? = some (.cells us.toArray e fz) := by
 unfold World.var? at hv
 rw [hg] at hv
 simp only [Option.bind_some] at hv
 split at hv
 ·rename_i cs' e' fz hh
  injection hv with hv
  subst hv
  exact ⟨e', fz, hh⟩
 ·cases hv
theorem err_var {W : World} (h : laidMetH Tryd.prog z6w W) : ∃ u v, W.var? Tryd.prog "strconv.ErrRange" = some #[.iface u v] := by
 have h1 := (laidMetH_iff.1 h).1
 obtain ⟨g, t, cs, fuel, p, hg, ht, hv, hd⟩ := Go.Lib.laidMet.reads h1 (n := "strconv.ErrRange") (d := _) (List.mem_filter.2 ⟨List.mem_cons_of_mem _ (List.mem_cons_of_mem _ (List.mem_cons_of_mem _ (List.mem_cons_self ..))), rfl⟩)
 obtain rfl := Option.some.inj ((show Tryd.prog.globalNamed "strconv.ErrRange" = some 1 by kernel_rfl).symm.trans hg)
 obtain rfl := Option.some.inj ((show (Tryd.prog.globals[1]?).map (·.type) = some 82 by kernel_rfl).symm.trans ht)
 obtain ⟨_, u, v, hcs, _⟩ := iface_of_trod Tryd.underlying82 hd
 refine ⟨u, v, ?_⟩
 rw [hv]
 congr 1
 apply Array.ext'
 simpa using hcs
theorem gl12 {W : World} (h : laidMetH Tryd.prog z6w W) : GlOK W (fun b => b < W.heap.size) := by
 obtain ⟨u, v, hv⟩ := err_var h
 obtain ⟨e0, fz0, h0⟩ := var_block (g := 1) (us := [.iface u v]) (by kernel_rfl) hv
 refine ⟨fun g us hgl => (by cases hgl), fun g hg => ?_⟩
 unfold globI at hg
 split at hg
 ·exact ⟨(Array.getElem?_eq_some_iff.1 h0).1, _, e0, fz0, .inr ⟨u, v, rfl⟩, h0⟩
 ·cases hg
end Go.Proofs.Rf
