/- Texts put together: Q12. -/
import Derived.Test.YtdecfjlhidgceaaGreatDoorAd3
set_option linter.unusedVariables false
namespace Go.Proofs.Rf
open Go Go.RowKit
abbrev XB := (Int × (Int × (Bool × Bool))) × List (Int × (Int × (Int × Int)))
abbrev XR := (Int × (Int × (Bool × Bool))) × List (Int × (Int × ((Int × Int) × Int)))
abbrev z4 : Int × Int × Int × Int := (0, 0, 0, 0)
abbrev z5 : Int × Int × (Int × Int) × Int := (0, 0, (0, 0), 0)
abbrev tb : Tab := tabOf tyTab
theorem mixed : Tryz.prog.follows .mixedOrders = true := by kernel_rfl
abbrev tI : Ty := .int .i64
abbrev tS : Ty := .str
abbrev tA : Ty := .pr tI tI
abbrev tT : Ty := .pr tI (.pr tI (.pr .bool .bool))
abbrev tC : Ty := .pr tI (.pr (.int .u8) tA)
abbrev tK : Ty := .pr tI (.pr (.int .u8) (.pr tA tI))
abbrev z3b := Int × Int × Int × Int × Int
abbrev psh121 : Shape := ⟨[(1, .pt 0 0)], [.box 41 [.d false tI, .d false tI]]⟩
abbrev z5H : Shape := ⟨[(1, .pt 0 0), (4, .d false tI)], [.box 41 [.d false tI, .d false tI]]⟩
abbrev z8g := psh121.den → Option (List z3b)
def avs121 (e : z3b) : List AV := [.d tI e.1, .ag [.d tI e.2.1, .d (.int .u8) e.2.2.1, .d tI e.2.2.2.1, .d tI e.2.2.2.2]]
def z4x (e : z3b) : List Value := [.int .i64 e.1, .agg #[.int .i64 e.2.1, .int .u8 e.2.2.1, .int .i64 e.2.2.2.1, .int .i64 e.2.2.2.2]]
abbrev z7D (D : z8g) : (Nat → Blk) → List AV → Option (List z3b) := capG psh121 D
theorem rel121 (w : World) (ok : Nat → Prop) (ι : Nat → Option Value) (e : z3b) : RelL w ok ι (avs121 e) (z4x e) := by
 refine z0c.2 ⟨_, _, rfl, z0l.2 rfl, z0c.2 ⟨_, _, rfl, ?_, z0d.2 rfl⟩⟩
 simp only [RelV]
 exact ⟨[.int .i64 e.2.1, .int .u8 e.2.2.1, .int .i64 e.2.2.2.1, .int .i64 e.2.2.2.2], rfl, z0c.2 ⟨_, _, rfl, z0l.2 rfl, z0c.2 ⟨_, _, rfl, z0l.2 rfl, z0c.2 ⟨_, _, rfl, z0l.2 rfl, z0c.2 ⟨_, _, rfl, z0l.2 rfl, z0d.2 rfl⟩⟩⟩⟩⟩
def elOf121 : List AV → Option z3b
 | [.d (.int .i64) i, .ag [.d (.int .i64) k, .d (.int .u8) n, .d (.int .i64) b, .d (.int .i64) o]] => some (i, k, n, b, o)
 | _ => none
theorem el121 (args : List AV) (e : z3b) (w : World) (ok : Nat → Prop) (ι : Nat → Option Value) (vals : List Value) (h : elOf121 args = some e) (hr : RelL w ok ι args vals) : vals = z4x e := by
 unfold elOf121 at h
 split at h
 ·injection h with h
  subst h
  obtain ⟨v, vr, e1, h1, h2⟩ := z0c.1 hr
  obtain ⟨v', vr', e2, h3, h4⟩ := z0c.1 h2
  simp only [RelV] at h3
  obtain ⟨us, e3, h5⟩ := h3
  obtain ⟨u1, r1, f1, g1, h5⟩ := z0c.1 h5
  obtain ⟨u2, r2, f2, g2, h5⟩ := z0c.1 h5
  obtain ⟨u3, r3, f3, g3, h5⟩ := z0c.1 h5
  obtain ⟨u4, r4, f4, g4, h5⟩ := z0c.1 h5
  rw [z0d.1 h5] at f4
  subst f4; subst f3; subst f2; subst f1
  rw [e1, e2, z0l.1 h1, e3, z0d.1 h4, z0l.1 g1, z0l.1 g2, z0l.1 g3, z0l.1 g4]
  rfl
 ·cases h
noncomputable def B121 : psh121.den → Option z5H.den := startY tb (lookL []) (z0L (upTo 16) (z0v 0 2)) (lookL []) (some (preOf Tryz.f121)) z5H psh121
noncomputable def Y121 : z5H.den → Option (RY z5H.den z3b) := stepY tb (lookL []) (z0L (upTo 16) (z0v 0 2)) (lookL []) 3 6 z5H z5H elOf121 0 (z0R Tryz.f121 1)
theorem it121 {D : z8g} (hD : Coll B121 Y121 D) : z5s Tryz.prog 121 z4x (z7D D) :=
 iterOK_at mixed z0i (Δ := []) trivial ⟨Tryz.func121, by kernel_rfl, by kernel_rfl, by kernel_rfl, by kernel_rfl, by kernel_rfl, by kernel_rfl, by kernel_rfl, by kernel_rfl, by kernel_rfl, by kernel_rfl, by kernel_rfl, by kernel_rfl, by kernel_rfl⟩ el121
  (z0b (Λ := []) (cs := []) (by kernel_rfl) (by kernel_rfl) (by kernel_rfl) trivial) (fun p hp => by injection hp with hp; subst hp; exact z0b (Λ := []) (cs := []) (by kernel_rfl) (by kernel_rfl) (by kernel_rfl) trivial) hD
abbrev ps99 : List SV := [.d false .str]
abbrev rs99 : Shape := ⟨[(0, .d false tI), (1, .d false .ic)], []⟩
abbrev TF99 := SV.denL ps99 → Option rs99.den
def digs (s : List UInt8) : Bool := s.all fun c => Nat.ble 48 c.toNat && Nat.ble c.toNat 57
def numOf (s : List UInt8) : Nat := s.foldl (fun n c => n * 10 + (c.toNat - 48)) 0
def F99 : SV.denL ps99 → Option rs99.den := fun x => if (digs x.1 && Nat.blt 0 x.1.length && Nat.ble x.1.length 1000) = true then (if numOf x.1 < 9223372036854775808 then some (((numOf x.1 : Int), true, ()), ()) else some ((9223372036854775807, false, ()), ())) else none
abbrev ps8 : List SV := [.d false (.sl (.pr tI (.pr tS (.pr tA (.pr tA (.pr tI (.pr tI (.pr .bool (.pr (.int .u64) (.pr (.pr tI (.pr (.int .u64) tA)) (.pr (.sl (.int .u8)) (.sl .bool))))))))))))]
abbrev rs8 : Shape := ⟨[(0, .d false .bool)], []⟩
abbrev TF8 := SV.denL ps8 → Option rs8.den
abbrev z7Z : Shape := ⟨[(8, .d false (.sl (.pr tI (.pr tS (.pr tA (.pr tA (.pr tI (.pr tI (.pr .bool (.pr (.int .u64) (.pr (.pr tI (.pr (.int .u64) tA)) (.pr (.sl (.int .u8)) (.sl .bool))))))))))))), (9, .d false tI), (10, .d false tI)], []⟩
abbrev w8_4 : List Way := [(none, ⟨[(2, .d false .bool)], []⟩), (some 0, ⟨[], []⟩)]
noncomputable def S8_4 : z7Z.den → Option (z7Z.den ⊕ denX w8_4) := z0W tb [] [] (upTo 46) Tryz.f8 4 z7Z w8_4
noncomputable def F8 (g8_4 : z7Z.den → Option (denX w8_4)) : TF8 := z0t tb [] [(4, lp z7Z w8_4 g8_4)] Tryz.f8 ps8 rs8
theorem call8 {g8_4 : z7Z.den → Option (denX w8_4)} (hg8_4 : Lim (S8_4) g8_4) : z0a Tryz.prog 8 (mkCall ps8 rs8 (F8 g8_4)) :=
 z0f mixed z0i (Δ := []) trivial ⟨Tryz.func8, rfl, by kernel_rfl, by kernel_rfl, by kernel_rfl, by kernel_rfl⟩ rfl (z0b (cs := [.loop (z0R Tryz.f8 4)]) (by kernel_rfl) (by kernel_rfl) (by kernel_rfl) ⟨z0p mixed z0i (Δ := []) trivial hg8_4 (z0b (Λ := []) (cs := []) (by kernel_rfl) (by kernel_rfl) (by kernel_rfl) trivial), trivial⟩)
abbrev ps12 : List SV := []
abbrev rs12 : Shape := ⟨[(0, .pt 0 0)], [.box 76 [.ro 1, .d false tI], .nr tT tC 114 110]⟩
abbrev TF12 := SV.denL ps12 → Option rs12.den
noncomputable def F12 : TF12 := z0t tb [] [] Tryz.f12 ps12 rs12
theorem call12 : z0a Tryz.prog 12 (mkCall ps12 rs12 (F12)) :=
 z0f mixed z0i (Δ := []) trivial ⟨Tryz.func12, rfl, by kernel_rfl, by kernel_rfl, by kernel_rfl, by kernel_rfl⟩ rfl (z0b (Λ := []) (cs := []) (by kernel_rfl) (by kernel_rfl) (by kernel_rfl) trivial)
abbrev ps48 : List SV := [.d false (.sl tI)]
abbrev rs48 : Shape := ⟨[(0, .d false tI)], []⟩
abbrev TF48 := SV.denL ps48 → Option rs48.den
abbrev z4f : Shape := ⟨[(5, .d false (.sl tI)), (6, .d false tI), (7, .d false tI)], []⟩
abbrev w48_2 : List Way := [(none, ⟨[(2, .d false tI)], []⟩), (some 0, ⟨[], []⟩)]
noncomputable def S48_2 : z4f.den → Option (z4f.den ⊕ denX w48_2) := z0W tb [] [] (upTo 15) Tryz.f48 2 z4f w48_2
noncomputable def F48 (g48_2 : z4f.den → Option (denX w48_2)) : TF48 := z0t tb [] [(2, lp z4f w48_2 g48_2)] Tryz.f48 ps48 rs48
theorem call48 {g48_2 : z4f.den → Option (denX w48_2)} (hg48_2 : Lim (S48_2) g48_2) : z0a Tryz.prog 48 (mkCall ps48 rs48 (F48 g48_2)) :=
 z0f mixed z0i (Δ := []) trivial ⟨Tryz.func48, rfl, by kernel_rfl, by kernel_rfl, by kernel_rfl, by kernel_rfl⟩ rfl (z0b (cs := [.loop (z0R Tryz.f48 2)]) (by kernel_rfl) (by kernel_rfl) (by kernel_rfl) ⟨z0p mixed z0i (Δ := []) trivial hg48_2 (z0b (Λ := []) (cs := []) (by kernel_rfl) (by kernel_rfl) (by kernel_rfl) trivial), trivial⟩)
abbrev ps49 : List SV := [.d false .bool, .d false tI]
abbrev rs49 : Shape := ⟨[(0, .d false tI)], []⟩
abbrev TF49 := SV.denL ps49 → Option rs49.den
noncomputable def F49 : TF49 := z0t tb [] [] Tryz.f49 ps49 rs49
theorem call49 : z0a Tryz.prog 49 (mkCall ps49 rs49 (F49)) :=
 z0f mixed z0i (Δ := []) trivial ⟨Tryz.func49, rfl, by kernel_rfl, by kernel_rfl, by kernel_rfl, by kernel_rfl⟩ rfl (z0b (Λ := []) (cs := []) (by kernel_rfl) (by kernel_rfl) (by kernel_rfl) trivial)
abbrev ps115 : List SV := [.d false (.sl tI), .d false tI]
abbrev rs115 : Shape := ⟨[(0, .d false tI)], []⟩
abbrev TF115 := SV.denL ps115 → Option rs115.den
abbrev z2J : Shape := ⟨[(0, .d false (.sl tI)), (1, .d false tI), (7, .d false tI), (8, .d false tI)], []⟩
abbrev z4z : List Way := [(none, ⟨[(4, .d false tI)], []⟩), (some 0, ⟨[], []⟩)]
noncomputable def S115_2 : z2J.den → Option (z2J.den ⊕ denX z4z) := z0W tb [] [] (upTo 19) Tryz.f115 2 z2J z4z
noncomputable def F115 (g115_2 : z2J.den → Option (denX z4z)) : TF115 := z0t tb [] [(2, lp z2J z4z g115_2)] Tryz.f115 ps115 rs115
theorem call115 {g115_2 : z2J.den → Option (denX z4z)} (hg115_2 : Lim (S115_2) g115_2) : z0a Tryz.prog 115 (mkCall ps115 rs115 (F115 g115_2)) :=
 z0f mixed z0i (Δ := []) trivial ⟨Tryz.func115, rfl, by kernel_rfl, by kernel_rfl, by kernel_rfl, by kernel_rfl⟩ rfl (z0b (cs := [.loop (z0R Tryz.f115 2)]) (by kernel_rfl) (by kernel_rfl) (by kernel_rfl) ⟨z0p mixed z0i (Δ := []) trivial hg115_2 (z0b (Λ := []) (cs := []) (by kernel_rfl) (by kernel_rfl) (by kernel_rfl) trivial), trivial⟩)
abbrev ps90 : List SV := [.d false (.sl tI), .d false tI]
abbrev rs90 : Shape := ⟨[(0, .d false .bool)], []⟩
abbrev TF90 := SV.denL ps90 → Option rs90.den
noncomputable def F90 (F115 : TF115) : TF90 := z0t tb [(115, mkCall ps115 rs115 F115)] [] Tryz.f90 ps90 rs90
theorem call90 {F115 : TF115} (h115 : z0a Tryz.prog 115 (mkCall ps115 rs115 F115)) : z0a Tryz.prog 90 (mkCall ps90 rs90 (F90 F115)) :=
 z0f mixed z0i (Δ := [(115, mkCall ps115 rs115 F115)]) ⟨.inl h115, trivial⟩ ⟨Tryz.func90, rfl, by kernel_rfl, by kernel_rfl, by kernel_rfl, by kernel_rfl⟩ rfl (z0b (Λ := []) (cs := []) (by kernel_rfl) (by kernel_rfl) (by kernel_rfl) trivial)
abbrev ps50 : List SV := [.d false tI]
abbrev rs50 : Shape := ⟨[(0, .d false .bool)], []⟩
abbrev TF50 := SV.denL ps50 → Option rs50.den
noncomputable def F50 (F90 : TF90) : TF50 := z0t tb [(90, mkCall ps90 rs90 F90)] [] Tryz.f50 ps50 rs50
theorem call50 {F90 : TF90} (h90 : z0a Tryz.prog 90 (mkCall ps90 rs90 F90)) : z0a Tryz.prog 50 (mkCall ps50 rs50 (F50 F90)) :=
 z0f mixed z0i (Δ := [(90, mkCall ps90 rs90 F90)]) ⟨.inl h90, trivial⟩ ⟨Tryz.func50, rfl, by kernel_rfl, by kernel_rfl, by kernel_rfl, by kernel_rfl⟩ rfl (z0b (Λ := []) (cs := []) (by kernel_rfl) (by kernel_rfl) (by kernel_rfl) trivial)
abbrev ps51 : List SV := []
abbrev rs51 : Shape := ⟨[(0, .d true tA)], []⟩
abbrev TF51 := SV.denL ps51 → Option rs51.den
noncomputable def F51 : TF51 := z0t tb [] [] Tryz.f51 ps51 rs51
theorem call51 : z0a Tryz.prog 51 (mkCall ps51 rs51 (F51)) :=
 z0f mixed z0i (Δ := []) trivial ⟨Tryz.func51, rfl, by kernel_rfl, by kernel_rfl, by kernel_rfl, by kernel_rfl⟩ rfl (z0b (Λ := []) (cs := []) (by kernel_rfl) (by kernel_rfl) (by kernel_rfl) trivial)
abbrev ps68 : List SV := [.d false tI]
abbrev rs68 : Shape := ⟨[(0, .d false tI)], []⟩
abbrev TF68 := SV.denL ps68 → Option rs68.den
noncomputable def F68 : TF68 := z0t tb [] [] Tryz.f68 ps68 rs68
theorem call68 : z0a Tryz.prog 68 (mkCall ps68 rs68 (F68)) :=
 z0f mixed z0i (Δ := []) trivial ⟨Tryz.func68, rfl, by kernel_rfl, by kernel_rfl, by kernel_rfl, by kernel_rfl⟩ rfl (z0b (Λ := []) (cs := []) (by kernel_rfl) (by kernel_rfl) (by kernel_rfl) trivial)
abbrev z6T : Shape := ⟨[(0, .pt 0 0), (1, .d true (.pr tI (.pr tI .bool))), (2, .d false tI)], [.box 76 [.ro 1, .d false tI], .nr tT tC 114 110]⟩
abbrev m52 : List Nat := [0]
abbrev rs52 : Shape := ⟨[(0, .pt 0 0), (1, .d true tA), (2, .d false tI)], [.box 76 [.ro 1, .d false tI], .nr tT tC 114 110]⟩
abbrev TF52 := z6T.den → Option rs52.den
noncomputable def F52 (F51 : TF51) (F68 : TF68) : TF52 := z1c tb [(51, mkCall ps51 rs51 F51), (68, mkCall ps68 rs68 F68)] [] Tryz.f52 z6T rs52 1
theorem call52 {F51 : TF51} {F68 : TF68} (h51 : z0a Tryz.prog 51 (mkCall ps51 rs51 F51)) (h68 : z0a Tryz.prog 68 (mkCall ps68 rs68 F68)) : z0a Tryz.prog 52 (mkCallB z6T rs52 m52 1 (F52 F51 F68)) :=
 z0y mixed z0i (Δ := [(51, mkCall ps51 rs51 F51), (68, mkCall ps68 rs68 F68)]) ⟨.inl h51, .inl h68, trivial⟩ ⟨Tryz.func52, rfl, by kernel_rfl, by kernel_rfl, by kernel_rfl, by kernel_rfl, by kernel_rfl, by kernel_rfl, by kernel_rfl, by kernel_rfl, by kernel_rfl⟩ rfl (z0b (Λ := []) (cs := []) (by kernel_rfl) (by kernel_rfl) (by kernel_rfl) trivial)
abbrev z6Y : Shape := ⟨[(0, .pt 0 0), (1, .d false tI), (2, .d false tI), (3, .d false tI), (4, .d false .bool)], [.box 76 [.ro 1, .d false tI], .nr tT tC 114 110]⟩
abbrev m14 : List Nat := [0]
abbrev rs14 : Shape := ⟨[(0, .pt 0 0), (1, .d true tA), (2, .d false tI)], [.box 76 [.ro 1, .d false tI], .nr tT tC 114 110]⟩
abbrev TF14 := z6Y.den → Option rs14.den
noncomputable def F14 (F48 : TF48) (F49 : TF49) (F50 : TF50) (F51 : TF51) (F52 : TF52) : TF14 := z1c tb [(48, mkCall ps48 rs48 F48), (49, mkCall ps49 rs49 F49), (50, mkCall ps50 rs50 F50), (51, mkCall ps51 rs51 F51), (52, mkCallB z6T rs52 m52 1 F52)] [] Tryz.f14 z6Y rs14 1
theorem call14 {F48 : TF48} {F49 : TF49} {F50 : TF50} {F51 : TF51} {F52 : TF52} (h48 : z0a Tryz.prog 48 (mkCall ps48 rs48 F48)) (h49 : z0a Tryz.prog 49 (mkCall ps49 rs49 F49)) (h50 : z0a Tryz.prog 50 (mkCall ps50 rs50 F50)) (h51 : z0a Tryz.prog 51 (mkCall ps51 rs51 F51)) (h52 : z0a Tryz.prog 52 (mkCallB z6T rs52 m52 1 F52)) : z0a Tryz.prog 14 (mkCallB z6Y rs14 m14 1 (F14 F48 F49 F50 F51 F52)) :=
 z0y mixed z0i (Δ := [(48, mkCall ps48 rs48 F48), (49, mkCall ps49 rs49 F49), (50, mkCall ps50 rs50 F50), (51, mkCall ps51 rs51 F51), (52, mkCallB z6T rs52 m52 1 F52)]) ⟨.inl h48, .inl h49, .inl h50, .inl h51, .inl h52, trivial⟩ ⟨Tryz.func14, rfl, by kernel_rfl, by kernel_rfl, by kernel_rfl, by kernel_rfl, by kernel_rfl, by kernel_rfl, by kernel_rfl, by kernel_rfl, by kernel_rfl⟩ rfl (z0b (Λ := []) (cs := []) (by kernel_rfl) (by kernel_rfl) (by kernel_rfl) trivial)
abbrev ps98 : List SV := []
abbrev rs98 : Shape := ⟨[(0, .mp 0)], [.map tS false tI]⟩
abbrev TF98 := SV.denL ps98 → Option rs98.den
noncomputable def F98 : TF98 := z0t tb [] [] Tryz.f98 ps98 rs98
theorem call98 : z0a Tryz.prog 98 (mkCall ps98 rs98 (F98)) :=
 z0f mixed z0i (Δ := []) trivial ⟨Tryz.func98, rfl, by kernel_rfl, by kernel_rfl, by kernel_rfl, by kernel_rfl⟩ rfl (z0b (Λ := []) (cs := []) (by kernel_rfl) (by kernel_rfl) (by kernel_rfl) trivial)
abbrev ps69 : List SV := [.d false tS]
abbrev rs69 : Shape := ⟨[(0, .d false tI), (1, .d false .bool)], []⟩
abbrev TF69 := SV.denL ps69 → Option rs69.den
abbrev z4a : Shape := ⟨[(0, .d false tS), (42, .pt 0 0)], [.it]⟩
abbrev w69_7 : List Way := [(none, ⟨[(2, .d false tI), (3, .d false .bool)], []⟩), (some 0, ⟨[(0, .d false tS)], []⟩)]
noncomputable def S69_7 : z4a.den → Option (z4a.den ⊕ denX w69_7) := z0W tb [] [] (upTo 65) Tryz.f69 7 z4a w69_7
noncomputable def F69 (F98 : TF98) (F99 : TF99) (g69_7 : z4a.den → Option (denX w69_7)) : TF69 := z0t tb [(98, mkCall ps98 rs98 F98), (99, mkCall ps99 rs99 F99)] [(7, lp z4a w69_7 g69_7)] Tryz.f69 ps69 rs69
theorem call69 {F98 : TF98} {F99 : TF99} {g69_7 : z4a.den → Option (denX w69_7)} (h98 : z0a Tryz.prog 98 (mkCall ps98 rs98 F98)) (h99 : z0a Tryz.prog 99 (mkCall ps99 rs99 F99)) (hg69_7 : Lim (S69_7) g69_7) : z0a Tryz.prog 69 (mkCall ps69 rs69 (F69 F98 F99 g69_7)) :=
 z0f mixed z0i (Δ := [(98, mkCall ps98 rs98 F98), (99, mkCall ps99 rs99 F99)]) ⟨.inl h98, .inl h99, trivial⟩ ⟨Tryz.func69, rfl, by kernel_rfl, by kernel_rfl, by kernel_rfl, by kernel_rfl⟩ rfl (z0b (cs := [.loop (z0R Tryz.f69 7)]) (by kernel_rfl) (by kernel_rfl) (by kernel_rfl) ⟨z0p mixed z0i (Δ := []) trivial hg69_7 (z0b (Λ := []) (cs := []) (by kernel_rfl) (by kernel_rfl) (by kernel_rfl) trivial), trivial⟩)
abbrev ps28 : List SV := [.d false tS]
abbrev rs28 : Shape := ⟨[(0, .d false tI), (1, .d false tI)], []⟩
abbrev TF28 := SV.denL ps28 → Option rs28.den
noncomputable def F28 (F69 : TF69) : TF28 := z0t tb [(69, mkCall ps69 rs69 F69)] [] Tryz.f28 ps28 rs28
theorem call28 {F69 : TF69} (h69 : z0a Tryz.prog 69 (mkCall ps69 rs69 F69)) : z0a Tryz.prog 28 (mkCall ps28 rs28 (F28 F69)) :=
 z0f mixed z0i (Δ := [(69, mkCall ps69 rs69 F69)]) ⟨.inl h69, trivial⟩ ⟨Tryz.func28, rfl, by kernel_rfl, by kernel_rfl, by kernel_rfl, by kernel_rfl⟩ rfl (z0b (Λ := []) (cs := []) (by kernel_rfl) (by kernel_rfl) (by kernel_rfl) trivial)
abbrev ps70 : List SV := [.d false tI]
abbrev rs70 : Shape := ⟨[(0, .d false tI)], []⟩
abbrev TF70 := SV.denL ps70 → Option rs70.den
abbrev z4I : Shape := ⟨[(0, .d false tI), (3, .d false tI)], []⟩
abbrev w70_2 : List Way := [(some 0, ⟨[(3, .d false tI)], []⟩)]
noncomputable def S70_2 : z4I.den → Option (z4I.den ⊕ denX w70_2) := z0W tb [] [] (upTo 10) Tryz.f70 2 z4I w70_2
noncomputable def F70 (g70_2 : z4I.den → Option (denX w70_2)) : TF70 := z0t tb [] [(2, lp z4I w70_2 g70_2)] Tryz.f70 ps70 rs70
theorem call70 {g70_2 : z4I.den → Option (denX w70_2)} (hg70_2 : Lim (S70_2) g70_2) : z0a Tryz.prog 70 (mkCall ps70 rs70 (F70 g70_2)) :=
 z0f mixed z0i (Δ := []) trivial ⟨Tryz.func70, rfl, by kernel_rfl, by kernel_rfl, by kernel_rfl, by kernel_rfl⟩ rfl (z0b (cs := [.loop (z0R Tryz.f70 2)]) (by kernel_rfl) (by kernel_rfl) (by kernel_rfl) ⟨z0p mixed z0i (Δ := []) trivial hg70_2 (z0b (Λ := []) (cs := []) (by kernel_rfl) (by kernel_rfl) (by kernel_rfl) trivial), trivial⟩)
abbrev ps54 : List SV := [.d false tS, .d true tA, .d false .bool]
abbrev rs54 : Shape := ⟨[(0, .d true (.pr tA (.pr tI (.pr tI .bool)))), (1, .d false .bool)], []⟩
abbrev TF54 := SV.denL ps54 → Option rs54.den
noncomputable def F54 (F28 : TF28) (F70 : TF70) : TF54 := z0t tb [(28, mkCall ps28 rs28 F28), (70, mkCall ps70 rs70 F70)] [] Tryz.f54 ps54 rs54
theorem call54 {F28 : TF28} {F70 : TF70} (h28 : z0a Tryz.prog 28 (mkCall ps28 rs28 F28)) (h70 : z0a Tryz.prog 70 (mkCall ps70 rs70 F70)) : z0a Tryz.prog 54 (mkCall ps54 rs54 (F54 F28 F70)) :=
 z0f mixed z0i (Δ := [(28, mkCall ps28 rs28 F28), (70, mkCall ps70 rs70 F70)]) ⟨.inl h28, .inl h70, trivial⟩ ⟨Tryz.func54, rfl, by kernel_rfl, by kernel_rfl, by kernel_rfl, by kernel_rfl⟩ rfl (z0b (Λ := []) (cs := []) (by kernel_rfl) (by kernel_rfl) (by kernel_rfl) trivial)
abbrev ps92 : List SV := []
abbrev rs92 : Shape := ⟨[(0, .d true (.pr (.pr tI (.fk 117)) (.pr (.pr tI (.fk 118)) (.pr (.pr tI (.fk 119)) (.pr tI (.fk 120))))))], []⟩
abbrev TF92 := SV.denL ps92 → Option rs92.den
noncomputable def F92 : TF92 := z0t tb [] [] Tryz.f92 ps92 rs92
theorem call92 : z0a Tryz.prog 92 (mkCall ps92 rs92 (F92)) :=
 z0f mixed z0i (Δ := []) trivial ⟨Tryz.func92, rfl, by kernel_rfl, by kernel_rfl, by kernel_rfl, by kernel_rfl⟩ rfl (z0b (Λ := []) (cs := []) (by kernel_rfl) (by kernel_rfl) (by kernel_rfl) trivial)
abbrev ps65 : List SV := [.ve [.d false (.sl (.pr tT (.sl tC))), .d false tI], .d true tA]
abbrev rs65 : Shape := ⟨[(0, .d false .bool)], []⟩
abbrev TF65 := SV.denL ps65 → Option rs65.den
noncomputable def F65 (F51 : TF51) : TF65 := z0t tb [(51, mkCall ps51 rs51 F51)] [] Tryz.f65 ps65 rs65
theorem call65 {F51 : TF51} (h51 : z0a Tryz.prog 51 (mkCall ps51 rs51 F51)) : z0a Tryz.prog 65 (mkCall ps65 rs65 (F65 F51)) :=
 z0f mixed z0i (Δ := [(51, mkCall ps51 rs51 F51)]) ⟨.inl h51, trivial⟩ ⟨Tryz.func65, rfl, by kernel_rfl, by kernel_rfl, by kernel_rfl, by kernel_rfl⟩ rfl (z0b (Λ := []) (cs := []) (by kernel_rfl) (by kernel_rfl) (by kernel_rfl) trivial)
abbrev ps117 : List SV := [.ve [.d false (.sl (.pr tT (.sl tC))), .d false tI], .d true (.pr tA (.pr tI (.pr tI .bool)))]
abbrev rs117 : Shape := ⟨[(0, .d false .bool)], []⟩
abbrev TF117 := SV.denL ps117 → Option rs117.den
noncomputable def F117 (F51 : TF51) (F65 : TF65) : TF117 := z0t tb [(51, mkCall ps51 rs51 F51), (65, mkCall ps65 rs65 F65)] [] Tryz.f117 ps117 rs117
theorem call117 {F51 : TF51} {F65 : TF65} (h51 : z0a Tryz.prog 51 (mkCall ps51 rs51 F51)) (h65 : z0a Tryz.prog 65 (mkCall ps65 rs65 F65)) : z0a Tryz.prog 117 (mkCall ps117 rs117 (F117 F51 F65)) :=
 z0f mixed z0i (Δ := [(51, mkCall ps51 rs51 F51), (65, mkCall ps65 rs65 F65)]) ⟨.inl h51, .inl h65, trivial⟩ ⟨Tryz.func117, rfl, by kernel_rfl, by kernel_rfl, by kernel_rfl, by kernel_rfl⟩ rfl (z0b (Λ := []) (cs := []) (by kernel_rfl) (by kernel_rfl) (by kernel_rfl) trivial)
abbrev ps118 : List SV := [.ve [.d false (.sl (.pr tT (.sl tC))), .d false tI], .d true (.pr tA (.pr tI (.pr tI .bool)))]
abbrev rs118 : Shape := ⟨[(0, .d false .bool)], []⟩
abbrev TF118 := SV.denL ps118 → Option rs118.den
noncomputable def F118 : TF118 := z0t tb [] [] Tryz.f118 ps118 rs118
theorem call118 : z0a Tryz.prog 118 (mkCall ps118 rs118 (F118)) :=
 z0f mixed z0i (Δ := []) trivial ⟨Tryz.func118, rfl, by kernel_rfl, by kernel_rfl, by kernel_rfl, by kernel_rfl⟩ rfl (z0b (Λ := []) (cs := []) (by kernel_rfl) (by kernel_rfl) (by kernel_rfl) trivial)
abbrev ps119 : List SV := [.ve [.d false (.sl (.pr tT (.sl tC))), .d false tI], .d true (.pr tA (.pr tI (.pr tI .bool)))]
abbrev rs119 : Shape := ⟨[(0, .d false .bool)], []⟩
abbrev TF119 := SV.denL ps119 → Option rs119.den
noncomputable def F119 : TF119 := z0t tb [] [] Tryz.f119 ps119 rs119
theorem call119 : z0a Tryz.prog 119 (mkCall ps119 rs119 (F119)) :=
 z0f mixed z0i (Δ := []) trivial ⟨Tryz.func119, rfl, by kernel_rfl, by kernel_rfl, by kernel_rfl, by kernel_rfl⟩ rfl (z0b (Λ := []) (cs := []) (by kernel_rfl) (by kernel_rfl) (by kernel_rfl) trivial)
abbrev ps120 : List SV := [.ve [.d false (.sl (.pr tT (.sl tC))), .d false tI], .d true (.pr tA (.pr tI (.pr tI .bool)))]
abbrev rs120 : Shape := ⟨[(0, .d false .bool)], []⟩
abbrev TF120 := SV.denL ps120 → Option rs120.den
noncomputable def F120 : TF120 := z0t tb [] [] Tryz.f120 ps120 rs120
theorem call120 : z0a Tryz.prog 120 (mkCall ps120 rs120 (F120)) :=
 z0f mixed z0i (Δ := []) trivial ⟨Tryz.func120, rfl, by kernel_rfl, by kernel_rfl, by kernel_rfl, by kernel_rfl⟩ rfl (z0b (Λ := []) (cs := []) (by kernel_rfl) (by kernel_rfl) (by kernel_rfl) trivial)
abbrev ps55 : List SV := [.ve [.d false (.sl (.pr tT (.sl tC))), .d false tI], .d true (.pr tA (.pr tI (.pr tI .bool)))]
abbrev rs55 : Shape := ⟨[(0, .d false tI)], []⟩
abbrev TF55 := SV.denL ps55 → Option rs55.den
abbrev z4e : Shape := ⟨[(0, .ve [.d false (.sl (.pr tT (.sl tC))), .d false tI]), (3, .pt 0 0), (10, .d true (.pr (.pr tI (.fk 117)) (.pr (.pr tI (.fk 118)) (.pr (.pr tI (.fk 119)) (.pr tI (.fk 120)))))), (11, .d false tI)], [.box 99 [.d false tI, .d false tI, .d false tI, .d false tI, .d false .bool]]⟩
abbrev w55_4 : List Way := [(none, ⟨[(4, .d false tI)], []⟩), (some 0, ⟨[], []⟩)]
noncomputable def S55_4 (F117 : TF117) (F118 : TF118) (F119 : TF119) (F120 : TF120) : z4e.den → Option (z4e.den ⊕ denX w55_4) := z0W tb [(117, mkCall ps117 rs117 F117), (118, mkCall ps118 rs118 F118), (119, mkCall ps119 rs119 F119), (120, mkCall ps120 rs120 F120)] [] (upTo 22) Tryz.f55 4 z4e w55_4
noncomputable def F55 (F92 : TF92) (g55_4 : z4e.den → Option (denX w55_4)) : TF55 := z0t tb [(92, mkCall ps92 rs92 F92)] [(4, lp z4e w55_4 g55_4)] Tryz.f55 ps55 rs55
theorem call55 {F117 : TF117} {F118 : TF118} {F119 : TF119} {F120 : TF120} {F92 : TF92} {g55_4 : z4e.den → Option (denX w55_4)} (h117 : z0a Tryz.prog 117 (mkCall ps117 rs117 F117)) (h118 : z0a Tryz.prog 118 (mkCall ps118 rs118 F118)) (h119 : z0a Tryz.prog 119 (mkCall ps119 rs119 F119)) (h120 : z0a Tryz.prog 120 (mkCall ps120 rs120 F120)) (h92 : z0a Tryz.prog 92 (mkCall ps92 rs92 F92)) (hg55_4 : Lim (S55_4 F117 F118 F119 F120) g55_4) : z0a Tryz.prog 55 (mkCall ps55 rs55 (F55 F92 g55_4)) :=
 z0f mixed z0i (Δ := [(92, mkCall ps92 rs92 F92)]) ⟨.inl h92, trivial⟩ ⟨Tryz.func55, rfl, by kernel_rfl, by kernel_rfl, by kernel_rfl, by kernel_rfl⟩ rfl (z0b (cs := [.loop (z0R Tryz.f55 4)]) (by kernel_rfl) (by kernel_rfl) (by kernel_rfl) ⟨z0p mixed z0i (Δ := [(117, mkCall ps117 rs117 F117), (118, mkCall ps118 rs118 F118), (119, mkCall ps119 rs119 F119), (120, mkCall ps120 rs120 F120)]) ⟨.inl h117, .inl h118, .inl h119, .inl h120, trivial⟩ hg55_4 (z0b (Λ := []) (cs := []) (by kernel_rfl) (by kernel_rfl) (by kernel_rfl) trivial), trivial⟩)
abbrev ps96 : List SV := [.d true tA]
abbrev rs96 : Shape := ⟨[(0, .fn 121 [.pt 0 0])], [.box 41 [.d false tI, .d false tI]]⟩
abbrev TF96 := SV.denL ps96 → Option rs96.den
noncomputable def F96 : TF96 := z0t tb [] [] Tryz.f96 ps96 rs96
theorem call96 : z0a Tryz.prog 96 (mkCall ps96 rs96 (F96)) :=
 z0f mixed z0i (Δ := []) trivial ⟨Tryz.func96, rfl, by kernel_rfl, by kernel_rfl, by kernel_rfl, by kernel_rfl⟩ rfl (z0b (Λ := []) (cs := []) (by kernel_rfl) (by kernel_rfl) (by kernel_rfl) trivial)
abbrev ps93 : List SV := [.d false (.sl tC)]
abbrev rs93 : Shape := ⟨[(0, .d true tA), (1, .d false .bool)], []⟩
abbrev TF93 := SV.denL ps93 → Option rs93.den
abbrev z2s : Shape := ⟨[(1, .pt 0 0), (2, .pt 1 0), (3, .pt 2 0), (4, .pt 3 0)], [.box 104 [.d false (.sl tC)], .box 41 [.d false tI, .d false tI], .box 4 [.d false .bool], .box 41 [.d false tI, .d false tI]]⟩
abbrev w93_5 : List Way := [(none, ⟨[(2, .pt 0 0), (3, .pt 1 0)], [.box 41 [.d false tI, .d false tI], .box 4 [.d false .bool]]⟩)]
noncomputable def S93_5 (F51 : TF51) : z3b → z2s.den → Option (z2s.den ⊕ denX w93_5) := roundFnG tb [(51, mkCall ps51 rs51 F51)] [] (upTo 33) Tryz.f93 5 avs121 z2s w93_5
noncomputable def F93 (F51 : TF51) (F96 : TF96) (D121 : z8g) (g93_5 : List z3b → z2s.den → Option (z2s.den ⊕ denX w93_5)) : TF93 := z0t tb [(51, mkCall ps51 rs51 F51), (96, mkCall ps96 rs96 F96)] [(5, rangeO (rgG Tryz.f93 5) 121 (z7D D121) z2s w93_5 g93_5)] Tryz.f93 ps93 rs93
theorem call93 {F51 : TF51} {F96 : TF96} {g93_5 : List z3b → z2s.den → Option (z2s.den ⊕ denX w93_5)} {D121 : z8g} (it121 : z5s Tryz.prog 121 z4x (z7D D121)) (h51 : z0a Tryz.prog 51 (mkCall ps51 rs51 F51)) (h96 : z0a Tryz.prog 96 (mkCall ps96 rs96 F96)) (hg93_5 : foldR (S93_5 F51) = g93_5) : z0a Tryz.prog 93 (mkCall ps93 rs93 (F93 F51 F96 D121 g93_5)) :=
 z0f mixed z0i (Δ := [(51, mkCall ps51 rs51 F51), (96, mkCall ps96 rs96 F96)]) ⟨.inl h51, .inl h96, trivial⟩ ⟨Tryz.func93, rfl, by kernel_rfl, by kernel_rfl, by kernel_rfl, by kernel_rfl⟩ rfl (z0b (cs := [.rangeFunc (rgG Tryz.f93 5) (rgP Tryz.f93 5) (rgA Tryz.f93 5) (rgB Tryz.f93 5)]) (by kernel_rfl) (by kernel_rfl) (by kernel_rfl) ⟨by rw [← hg93_5]; exact z6L mixed z0i (Δ := [(51, mkCall ps51 rs51 F51)]) ⟨.inl h51, trivial⟩ it121 ⟨by kernel_rfl, rel121, fun _ => rfl, by kernel_rfl, by kernel_rfl, by kernel_rfl⟩ (z0b (Λ := []) (cs := []) (by kernel_rfl) (by kernel_rfl) (by kernel_rfl) trivial), trivial⟩)
abbrev ps94 : List SV := [.d false tS]
abbrev rs94 : Shape := ⟨[(0, .d false (.int .u64))], []⟩
abbrev TF94 := SV.denL ps94 → Option rs94.den
noncomputable def F94 (F69 : TF69) : TF94 := z0t tb [(69, mkCall ps69 rs69 F69)] [] Tryz.f94 ps94 rs94
theorem call94 {F69 : TF69} (h69 : z0a Tryz.prog 69 (mkCall ps69 rs69 F69)) : z0a Tryz.prog 94 (mkCall ps94 rs94 (F94 F69)) :=
 z0f mixed z0i (Δ := [(69, mkCall ps69 rs69 F69)]) ⟨.inl h69, trivial⟩ ⟨Tryz.func94, rfl, by kernel_rfl, by kernel_rfl, by kernel_rfl, by kernel_rfl⟩ rfl (z0b (Λ := []) (cs := []) (by kernel_rfl) (by kernel_rfl) (by kernel_rfl) trivial)
abbrev ps56 : List SV := [.d false tS, .d false (.sl tC)]
abbrev rs56 : Shape := ⟨[(0, .d true (.pr tI (.pr (.int .u64) tA)))], []⟩
abbrev TF56 := SV.denL ps56 → Option rs56.den
abbrev z4d : Shape := ⟨[(0, .d false tS), (4, .pt 0 0), (5, .pt 1 0), (8, .d false (.int .u64)), (24, .d false (.sl tC)), (25, .d false tI), (26, .d false tI)], [.box 48 [.d false tI, .d false (.int .u64), .d false tI, .d false tI], .box 48 [.d false tI, .d false (.int .u64), .d false tI, .d false tI]]⟩
abbrev w56_9 : List Way := [(none, ⟨[(4, .pt 0 0)], [.box 48 [.d false tI, .d false (.int .u64), .d false tI, .d false tI]]⟩), (some 0, ⟨[(0, .d false tS), (4, .pt 0 0), (8, .d false (.int .u64))], [.box 48 [.d false tI, .d false (.int .u64), .d false tI, .d false tI]]⟩)]
noncomputable def S56_9 : z4d.den → Option (z4d.den ⊕ denX w56_9) := z0W tb [] [] (upTo 50) Tryz.f56 9 z4d w56_9
noncomputable def F56 (F51 : TF51) (F93 : TF93) (F94 : TF94) (g56_9 : z4d.den → Option (denX w56_9)) : TF56 := z0t tb [(51, mkCall ps51 rs51 F51), (93, mkCall ps93 rs93 F93), (94, mkCall ps94 rs94 F94)] [(9, lp z4d w56_9 g56_9)] Tryz.f56 ps56 rs56
theorem call56 {F51 : TF51} {F93 : TF93} {F94 : TF94} {g56_9 : z4d.den → Option (denX w56_9)} (h51 : z0a Tryz.prog 51 (mkCall ps51 rs51 F51)) (h93 : z0a Tryz.prog 93 (mkCall ps93 rs93 F93)) (h94 : z0a Tryz.prog 94 (mkCall ps94 rs94 F94)) (hg56_9 : Lim (S56_9) g56_9) : z0a Tryz.prog 56 (mkCall ps56 rs56 (F56 F51 F93 F94 g56_9)) :=
 z0f mixed z0i (Δ := [(51, mkCall ps51 rs51 F51), (93, mkCall ps93 rs93 F93), (94, mkCall ps94 rs94 F94)]) ⟨.inl h51, .inl h93, .inl h94, trivial⟩ ⟨Tryz.func56, rfl, by kernel_rfl, by kernel_rfl, by kernel_rfl, by kernel_rfl⟩ rfl (z0b (cs := [.loop (z0R Tryz.f56 9)]) (by kernel_rfl) (by kernel_rfl) (by kernel_rfl) ⟨z0p mixed z0i (Δ := []) trivial hg56_9 (z0b (Λ := []) (cs := []) (by kernel_rfl) (by kernel_rfl) (by kernel_rfl) trivial), trivial⟩)
abbrev z6Z : List SV := [.ve [.d false (.sl (.pr tT (.sl tC))), .d false tI], .d true (.pr tA (.pr tI (.pr tI .bool)))]
abbrev z6i : Shape := ⟨[(0, .d false (.sl tC))], []⟩
abbrev TF57v := SV.denL z6Z → Option z6i.den
noncomputable def F57v : TF57v := z0t tb [] [] Tryz.f57 z6Z z6i
theorem call57v : z0a Tryz.prog 57 (mkCall z6Z z6i (F57v)) :=
 z0f mixed z0i (Δ := []) trivial ⟨Tryz.func57, rfl, by kernel_rfl, by kernel_rfl, by kernel_rfl, by kernel_rfl⟩ rfl (z0b (Λ := []) (cs := []) (by kernel_rfl) (by kernel_rfl) (by kernel_rfl) trivial)
abbrev ps16 : List SV := [.ve [.d false (.sl (.pr tT (.sl tC))), .d false tI], .d false tS, .d true tA]
abbrev rs16 : Shape := ⟨[(0, .d true (.pr tI (.pr (.int .u64) tA))), (1, .d false tI)], []⟩
abbrev TF16 := SV.denL ps16 → Option rs16.den
noncomputable def F16 (F51 : TF51) (F54 : TF54) (F55 : TF55) (F56 : TF56) (F57v : TF57v) : TF16 := z0t tb [(51, mkCall ps51 rs51 F51), (54, mkCall ps54 rs54 F54), (55, mkCall ps55 rs55 F55), (56, mkCall ps56 rs56 F56), (57, mkCall z6Z z6i F57v)] [] Tryz.f16 ps16 rs16
theorem call16 {F51 : TF51} {F54 : TF54} {F55 : TF55} {F56 : TF56} {F57v : TF57v} (h51 : z0a Tryz.prog 51 (mkCall ps51 rs51 F51)) (h54 : z0a Tryz.prog 54 (mkCall ps54 rs54 F54)) (h55 : z0a Tryz.prog 55 (mkCall ps55 rs55 F55)) (h56 : z0a Tryz.prog 56 (mkCall ps56 rs56 F56)) (h57v : z0a Tryz.prog 57 (mkCall z6Z z6i F57v)) : z0a Tryz.prog 16 (mkCall ps16 rs16 (F16 F51 F54 F55 F56 F57v)) :=
 z0f mixed z0i (Δ := [(51, mkCall ps51 rs51 F51), (54, mkCall ps54 rs54 F54), (55, mkCall ps55 rs55 F55), (56, mkCall ps56 rs56 F56), (57, mkCall z6Z z6i F57v)]) ⟨.inl h51, .inl h54, .inl h55, .inl h56, .inl h57v, trivial⟩ ⟨Tryz.func16, rfl, by kernel_rfl, by kernel_rfl, by kernel_rfl, by kernel_rfl⟩ rfl (z0b (Λ := []) (cs := []) (by kernel_rfl) (by kernel_rfl) (by kernel_rfl) trivial)
abbrev z4W : Shape := ⟨[(0, .pt 0 0), (1, .d true (.pr tA (.pr tI (.pr tI .bool))))], [.box 76 [.ro 1, .d false tI], .nr tT tC 114 110]⟩
abbrev m57 : List Nat := [0, 1]
abbrev rs57 : Shape := ⟨[(0, .pt 0 0), (1, .fs 1 4)], [.box 76 [.ro 1, .d false tI], .nr tT tC 114 110]⟩
abbrev TF57 := z4W.den → Option rs57.den
noncomputable def F57 : TF57 := runFnBI tb [] Tryz.f57 z4W rs57 m57 1
theorem call57 : z0a Tryz.prog 57 (mkCallB z4W rs57 m57 1 (F57)) :=
 z8p mixed z0i (Δ := []) trivial ⟨Tryz.func57, rfl, by kernel_rfl, by kernel_rfl, by kernel_rfl, by kernel_rfl, by kernel_rfl, by kernel_rfl, by kernel_rfl, by kernel_rfl, by kernel_rfl, by kernel_rfl⟩ rfl
abbrev ps95 : List SV := [.ve [.d false (.sl (.pr tT (.sl tC))), .d false tI], .d false tS, .d true (.pr tI (.pr (.int .u64) tA))]
abbrev rs95 : Shape := ⟨[(0, .d false .bool)], []⟩
abbrev TF95 := SV.denL ps95 → Option rs95.den
noncomputable def F95 (F65 : TF65) (F94 : TF94) : TF95 := z0t tb [(65, mkCall ps65 rs65 F65), (94, mkCall ps94 rs94 F94)] [] Tryz.f95 ps95 rs95
theorem call95 {F65 : TF65} {F94 : TF94} (h65 : z0a Tryz.prog 65 (mkCall ps65 rs65 F65)) (h94 : z0a Tryz.prog 94 (mkCall ps94 rs94 F94)) : z0a Tryz.prog 95 (mkCall ps95 rs95 (F95 F65 F94)) :=
 z0f mixed z0i (Δ := [(65, mkCall ps65 rs65 F65), (94, mkCall ps94 rs94 F94)]) ⟨.inl h65, .inl h94, trivial⟩ ⟨Tryz.func95, rfl, by kernel_rfl, by kernel_rfl, by kernel_rfl, by kernel_rfl⟩ rfl (z0b (Λ := []) (cs := []) (by kernel_rfl) (by kernel_rfl) (by kernel_rfl) trivial)
abbrev ps126 : List SV := [.d false (.int .u64), .d false (.int .u64)]
abbrev rs126 : Shape := ⟨[(0, .d false (.int .u64)), (1, .d false (.int .u64))], []⟩
abbrev TF126 := SV.denL ps126 → Option rs126.den
noncomputable def F126 : TF126 := z0t tb [] [] Tryz.f126 ps126 rs126
theorem call126 : z0a Tryz.prog 126 (mkCall ps126 rs126 (F126)) :=
 z0f mixed z0i (Δ := []) trivial ⟨Tryz.func126, rfl, by kernel_rfl, by kernel_rfl, by kernel_rfl, by kernel_rfl⟩ rfl (z0b (Λ := []) (cs := []) (by kernel_rfl) (by kernel_rfl) (by kernel_rfl) trivial)
abbrev ps122 : List SV := [.d false (.int .u64), .d false (.int .u64)]
abbrev rs122 : Shape := ⟨[(0, .d false (.int .u64)), (1, .d false (.int .u64))], []⟩
abbrev TF122 := SV.denL ps122 → Option rs122.den
noncomputable def F122 (F126 : TF126) : TF122 := z0t tb [(126, mkCall ps126 rs126 F126)] [] Tryz.f122 ps122 rs122
theorem call122 {F126 : TF126} (h126 : z0a Tryz.prog 126 (mkCall ps126 rs126 F126)) : z0a Tryz.prog 122 (mkCall ps122 rs122 (F122 F126)) :=
 z0f mixed z0i (Δ := [(126, mkCall ps126 rs126 F126)]) ⟨.inl h126, trivial⟩ ⟨Tryz.func122, rfl, by kernel_rfl, by kernel_rfl, by kernel_rfl, by kernel_rfl⟩ rfl (z0b (Λ := []) (cs := []) (by kernel_rfl) (by kernel_rfl) (by kernel_rfl) trivial)
abbrev ps97 : List SV := [.d false (.sl tC), .d false tI]
abbrev rs97 : Shape := ⟨[(0, .rf 0)], [.row tC 110]⟩
abbrev TF97 := SV.denL ps97 → Option rs97.den
abbrev z4D : Shape := ⟨[(7, .rf 0), (8, .d false tI)], [.row tC 110]⟩
abbrev w97_8 : List Way := [(some 0, ⟨[(7, .rf 0)], [.row tC 110]⟩)]
noncomputable def S97_8 : z4D.den → Option (z4D.den ⊕ denX w97_8) := z0W tb [] [] (upTo 48) Tryz.f97 8 z4D w97_8
noncomputable def F97 (F122 : TF122) (g97_8 : z4D.den → Option (denX w97_8)) : TF97 := z0t tb [(122, mkCall ps122 rs122 F122)] [(8, lp z4D w97_8 g97_8)] Tryz.f97 ps97 rs97
theorem call97 {F122 : TF122} {g97_8 : z4D.den → Option (denX w97_8)} (h122 : z0a Tryz.prog 122 (mkCall ps122 rs122 F122)) (hg97_8 : Lim (S97_8) g97_8) : z0a Tryz.prog 97 (mkCall ps97 rs97 (F97 F122 g97_8)) :=
 z0f mixed z0i (Δ := [(122, mkCall ps122 rs122 F122)]) ⟨.inl h122, trivial⟩ ⟨Tryz.func97, rfl, by kernel_rfl, by kernel_rfl, by kernel_rfl, by kernel_rfl⟩ rfl (z0b (cs := [.loop (z0R Tryz.f97 8)]) (by kernel_rfl) (by kernel_rfl) (by kernel_rfl) ⟨z0p mixed z0i (Δ := []) trivial hg97_8 (z0b (Λ := []) (cs := []) (by kernel_rfl) (by kernel_rfl) (by kernel_rfl) trivial), trivial⟩)
abbrev ps58 : List SV := [.ve [.d false (.sl (.pr tT (.sl tC))), .d false tI], .d false tS, .d false tI, .d true (.pr tI (.pr (.int .u64) tA))]
abbrev rs58 : Shape := ⟨[(0, .rf 0)], [.row tC 110]⟩
abbrev TF58 := SV.denL ps58 → Option rs58.den
abbrev z1G : Shape := ⟨[(9, .pt 0 0)], [.box 104 [.rf 1], .row tC 110]⟩
abbrev z5U : List Way := []
abbrev z4c : Shape := ⟨[(7, .pt 0 0), (9, .pt 1 0), (16, .d false tI), (17, .d false tI)], [.box 48 [.d false tI, .d false (.int .u64), .d false tI, .d false tI], .box 104 [.rf 2], .row tC 110]⟩
abbrev w58_3 : List Way := [(some 1, ⟨[(9, .pt 0 0)], [.box 104 [.rf 1], .row tC 110]⟩)]
noncomputable def S58_10 : z3b → z1G.den → Option (z1G.den ⊕ denX z5U) := roundFnG tb [] [] (upTo 67) Tryz.f58 10 avs121 z1G z5U
noncomputable def S58_3 : z4c.den → Option (z4c.den ⊕ denX w58_3) := z0W tb [] [] (upTo 67) Tryz.f58 3 z4c w58_3
noncomputable def F58 (F51 : TF51) (F95 : TF95) (F96 : TF96) (F97 : TF97) (D121 : z8g) (g58_10 : List z3b → z1G.den → Option (z1G.den ⊕ denX z5U)) (g58_3 : z4c.den → Option (denX w58_3)) : TF58 := z0t tb [(51, mkCall ps51 rs51 F51), (95, mkCall ps95 rs95 F95), (96, mkCall ps96 rs96 F96), (97, mkCall ps97 rs97 F97)] [(10, rangeO (rgG Tryz.f58 10) 121 (z7D D121) z1G z5U g58_10), (3, lp z4c w58_3 g58_3)] Tryz.f58 ps58 rs58
theorem call58 {F51 : TF51} {F95 : TF95} {F96 : TF96} {F97 : TF97} {g58_10 : List z3b → z1G.den → Option (z1G.den ⊕ denX z5U)} {g58_3 : z4c.den → Option (denX w58_3)} {D121 : z8g} (it121 : z5s Tryz.prog 121 z4x (z7D D121)) (h51 : z0a Tryz.prog 51 (mkCall ps51 rs51 F51)) (h95 : z0a Tryz.prog 95 (mkCall ps95 rs95 F95)) (h96 : z0a Tryz.prog 96 (mkCall ps96 rs96 F96)) (h97 : z0a Tryz.prog 97 (mkCall ps97 rs97 F97)) (hg58_10 : foldR (S58_10) = g58_10) (hg58_3 : Lim (S58_3) g58_3) : z0a Tryz.prog 58 (mkCall ps58 rs58 (F58 F51 F95 F96 F97 D121 g58_10 g58_3)) :=
 z0f mixed z0i (Δ := [(51, mkCall ps51 rs51 F51), (95, mkCall ps95 rs95 F95), (96, mkCall ps96 rs96 F96), (97, mkCall ps97 rs97 F97)]) ⟨.inl h51, .inl h95, .inl h96, .inl h97, trivial⟩ ⟨Tryz.func58, rfl, by kernel_rfl, by kernel_rfl, by kernel_rfl, by kernel_rfl⟩ rfl (z0b (cs := [.rangeFunc (rgG Tryz.f58 10) (rgP Tryz.f58 10) (rgA Tryz.f58 10) (rgB Tryz.f58 10), .loop (z0R Tryz.f58 3)]) (by kernel_rfl) (by kernel_rfl) (by kernel_rfl) ⟨by rw [← hg58_10]; exact z6L mixed z0i (Δ := []) trivial it121 ⟨by kernel_rfl, rel121, fun _ => rfl, by kernel_rfl, by kernel_rfl, by kernel_rfl⟩ (z0b (Λ := []) (cs := []) (by kernel_rfl) (by kernel_rfl) (by kernel_rfl) trivial), z0p mixed z0i (Δ := []) trivial hg58_3 (z0b (Λ := []) (cs := []) (by kernel_rfl) (by kernel_rfl) (by kernel_rfl) trivial), trivial⟩)
abbrev z6X : Shape := ⟨[(0, .pt 0 0), (1, .d false tS), (2, .d true tA), (3, .d true (.pr tI (.pr (.int .u64) tA)))], [.box 76 [.ro 1, .d false tI], .nr tT tC 114 110]⟩
abbrev m17 : List Nat := [0]
abbrev rs17 : Shape := ⟨[(0, .pt 0 0), (1, .d false tI)], [.box 76 [.ro 1, .d false tI], .nr tT tC 114 110]⟩
abbrev TF17 := z6X.den → Option rs17.den
noncomputable def F17 (F54 : TF54) (F55 : TF55) (F57 : TF57) (F58 : TF58) : TF17 := z1c tb [(54, mkCall ps54 rs54 F54), (55, mkCall ps55 rs55 F55), (57, mkCallB z4W rs57 m57 1 F57), (58, mkCall ps58 rs58 F58)] [] Tryz.f17 z6X rs17 1
theorem call17 {F54 : TF54} {F55 : TF55} {F57 : TF57} {F58 : TF58} (h54 : z0a Tryz.prog 54 (mkCall ps54 rs54 F54)) (h55 : z0a Tryz.prog 55 (mkCall ps55 rs55 F55)) (h57 : z0a Tryz.prog 57 (mkCallB z4W rs57 m57 1 F57)) (h58 : z0a Tryz.prog 58 (mkCall ps58 rs58 F58)) : z0a Tryz.prog 17 (mkCallB z6X rs17 m17 1 (F17 F54 F55 F57 F58)) :=
 z0y mixed z0i (Δ := [(54, mkCall ps54 rs54 F54), (55, mkCall ps55 rs55 F55), (57, mkCallB z4W rs57 m57 1 F57), (58, mkCall ps58 rs58 F58)]) ⟨.inl h54, .inl h55, .inl h57, .inl h58, trivial⟩ ⟨Tryz.func17, rfl, by kernel_rfl, by kernel_rfl, by kernel_rfl, by kernel_rfl, by kernel_rfl, by kernel_rfl, by kernel_rfl, by kernel_rfl, by kernel_rfl⟩ rfl (z0b (Λ := []) (cs := []) (by kernel_rfl) (by kernel_rfl) (by kernel_rfl) trivial)
abbrev ps59 : List SV := [.d false (.sl tI)]
abbrev rs59 : Shape := ⟨[(0, .d false tI)], []⟩
abbrev TF59 := SV.denL ps59 → Option rs59.den
abbrev z4b : Shape := ⟨[(5, .d false (.sl tI)), (6, .d false tI), (7, .d false tI)], []⟩
abbrev w59_2 : List Way := [(none, ⟨[(2, .d false tI)], []⟩), (some 0, ⟨[], []⟩)]
noncomputable def S59_2 : z4b.den → Option (z4b.den ⊕ denX w59_2) := z0W tb [] [] (upTo 15) Tryz.f59 2 z4b w59_2
noncomputable def F59 (g59_2 : z4b.den → Option (denX w59_2)) : TF59 := z0t tb [] [(2, lp z4b w59_2 g59_2)] Tryz.f59 ps59 rs59
theorem call59 {g59_2 : z4b.den → Option (denX w59_2)} (hg59_2 : Lim (S59_2) g59_2) : z0a Tryz.prog 59 (mkCall ps59 rs59 (F59 g59_2)) :=
 z0f mixed z0i (Δ := []) trivial ⟨Tryz.func59, rfl, by kernel_rfl, by kernel_rfl, by kernel_rfl, by kernel_rfl⟩ rfl (z0b (cs := [.loop (z0R Tryz.f59 2)]) (by kernel_rfl) (by kernel_rfl) (by kernel_rfl) ⟨z0p mixed z0i (Δ := []) trivial hg59_2 (z0b (Λ := []) (cs := []) (by kernel_rfl) (by kernel_rfl) (by kernel_rfl) trivial), trivial⟩)
abbrev ps60 : List SV := [.d false (.sl tC)]
abbrev rs60 : Shape := ⟨[(0, .rf 0)], [.row tC 110]⟩
abbrev TF60 := SV.denL ps60 → Option rs60.den
noncomputable def F60 : TF60 := z0t tb [] [] Tryz.f60 ps60 rs60
theorem call60 : z0a Tryz.prog 60 (mkCall ps60 rs60 (F60)) :=
 z0f mixed z0i (Δ := []) trivial ⟨Tryz.func60, rfl, by kernel_rfl, by kernel_rfl, by kernel_rfl, by kernel_rfl⟩ rfl (z0b (Λ := []) (cs := []) (by kernel_rfl) (by kernel_rfl) (by kernel_rfl) trivial)
abbrev z6W : Shape := ⟨[(0, .pt 0 0), (1, .d true tA), (2, .d true tA), (3, .d false tI)], [.box 76 [.ro 1, .d false tI], .nr tT tC 114 110]⟩
abbrev m19 : List Nat := [0]
abbrev rs19 : Shape := ⟨[(0, .pt 0 0), (1, .d false tI)], [.box 76 [.ro 1, .d false tI], .nr tT tC 114 110]⟩
abbrev TF19 := z6W.den → Option rs19.den
noncomputable def F19 (F55 : TF55) (F57 : TF57) (F59 : TF59) (F60 : TF60) : TF19 := z1c tb [(55, mkCall ps55 rs55 F55), (57, mkCallB z4W rs57 m57 1 F57), (59, mkCall ps59 rs59 F59), (60, mkCall ps60 rs60 F60)] [] Tryz.f19 z6W rs19 1
theorem call19 {F55 : TF55} {F57 : TF57} {F59 : TF59} {F60 : TF60} (h55 : z0a Tryz.prog 55 (mkCall ps55 rs55 F55)) (h57 : z0a Tryz.prog 57 (mkCallB z4W rs57 m57 1 F57)) (h59 : z0a Tryz.prog 59 (mkCall ps59 rs59 F59)) (h60 : z0a Tryz.prog 60 (mkCall ps60 rs60 F60)) : z0a Tryz.prog 19 (mkCallB z6W rs19 m19 1 (F19 F55 F57 F59 F60)) :=
 z0y mixed z0i (Δ := [(55, mkCall ps55 rs55 F55), (57, mkCallB z4W rs57 m57 1 F57), (59, mkCall ps59 rs59 F59), (60, mkCall ps60 rs60 F60)]) ⟨.inl h55, .inl h57, .inl h59, .inl h60, trivial⟩ ⟨Tryz.func19, rfl, by kernel_rfl, by kernel_rfl, by kernel_rfl, by kernel_rfl, by kernel_rfl, by kernel_rfl, by kernel_rfl, by kernel_rfl, by kernel_rfl⟩ rfl (z0b (Λ := []) (cs := []) (by kernel_rfl) (by kernel_rfl) (by kernel_rfl) trivial)
abbrev ps22 : List SV := [.ve [.d false (.sl (.pr tT (.sl tC))), .d false tI]]
abbrev rs22 : Shape := ⟨[(0, .d false tI)], []⟩
abbrev TF22 := SV.denL ps22 → Option rs22.den
noncomputable def F22 : TF22 := z0t tb [] [] Tryz.f22 ps22 rs22
theorem call22 : z0a Tryz.prog 22 (mkCall ps22 rs22 (F22)) :=
 z0f mixed z0i (Δ := []) trivial ⟨Tryz.func22, rfl, by kernel_rfl, by kernel_rfl, by kernel_rfl, by kernel_rfl⟩ rfl (z0b (Λ := []) (cs := []) (by kernel_rfl) (by kernel_rfl) (by kernel_rfl) trivial)
abbrev ps24 : List SV := [.d false tI, .ve [.d false tI, .d false tI]]
abbrev rs24 : Shape := ⟨[(0, .d true tA)], []⟩
abbrev TF24 := SV.denL ps24 → Option rs24.den
noncomputable def F24 : TF24 := z0t tb [] [] Tryz.f24 ps24 rs24
theorem call24 : z0a Tryz.prog 24 (mkCall ps24 rs24 (F24)) :=
 z0f mixed z0i (Δ := []) trivial ⟨Tryz.func24, rfl, by kernel_rfl, by kernel_rfl, by kernel_rfl, by kernel_rfl⟩ rfl (z0b (Λ := []) (cs := []) (by kernel_rfl) (by kernel_rfl) (by kernel_rfl) trivial)
abbrev ps66 : List SV := [.ve [.d false (.sl (.pr tT (.sl tC))), .d false tI], .d true tA]
abbrev rs66 : Shape := ⟨[(0, .d false .bool)], []⟩
abbrev TF66 := SV.denL ps66 → Option rs66.den
noncomputable def F66 (F51 : TF51) : TF66 := z0t tb [(51, mkCall ps51 rs51 F51)] [] Tryz.f66 ps66 rs66
theorem call66 {F51 : TF51} (h51 : z0a Tryz.prog 51 (mkCall ps51 rs51 F51)) : z0a Tryz.prog 66 (mkCall ps66 rs66 (F66 F51)) :=
 z0f mixed z0i (Δ := [(51, mkCall ps51 rs51 F51)]) ⟨.inl h51, trivial⟩ ⟨Tryz.func66, rfl, by kernel_rfl, by kernel_rfl, by kernel_rfl, by kernel_rfl⟩ rfl (z0b (Λ := []) (cs := []) (by kernel_rfl) (by kernel_rfl) (by kernel_rfl) trivial)
abbrev ps25 : List SV := [.ve [.d false (.sl (.pr tT (.sl tC))), .d false tI], .d true tA, .d true tA]
abbrev rs25 : Shape := ⟨[(0, .d false .bool), (1, .d false tI)], []⟩
abbrev TF25 := SV.denL ps25 → Option rs25.den
noncomputable def F25 (F51 : TF51) (F65 : TF65) (F66 : TF66) : TF25 := z0t tb [(51, mkCall ps51 rs51 F51), (65, mkCall ps65 rs65 F65), (66, mkCall ps66 rs66 F66)] [] Tryz.f25 ps25 rs25
theorem call25 {F51 : TF51} {F65 : TF65} {F66 : TF66} (h51 : z0a Tryz.prog 51 (mkCall ps51 rs51 F51)) (h65 : z0a Tryz.prog 65 (mkCall ps65 rs65 F65)) (h66 : z0a Tryz.prog 66 (mkCall ps66 rs66 F66)) : z0a Tryz.prog 25 (mkCall ps25 rs25 (F25 F51 F65 F66)) :=
 z0f mixed z0i (Δ := [(51, mkCall ps51 rs51 F51), (65, mkCall ps65 rs65 F65), (66, mkCall ps66 rs66 F66)]) ⟨.inl h51, .inl h65, .inl h66, trivial⟩ ⟨Tryz.func25, rfl, by kernel_rfl, by kernel_rfl, by kernel_rfl, by kernel_rfl⟩ rfl (z0b (Λ := []) (cs := []) (by kernel_rfl) (by kernel_rfl) (by kernel_rfl) trivial)
abbrev z6S : Shape := ⟨[(0, .pt 0 0), (1, .d false tI)], [.box 76 [.ro 1, .d false tI], .nr tT tC 114 110]⟩
abbrev m67 : List Nat := [0]
abbrev rs67 : Shape := ⟨[(0, .pt 0 0)], [.box 76 [.ro 1, .d false tI], .nr tT tC 114 110]⟩
abbrev TF67 := z6S.den → Option rs67.den
noncomputable def F67 (F68 : TF68) : TF67 := z1c tb [(68, mkCall ps68 rs68 F68)] [] Tryz.f67 z6S rs67 1
theorem call67 {F68 : TF68} (h68 : z0a Tryz.prog 68 (mkCall ps68 rs68 F68)) : z0a Tryz.prog 67 (mkCallB z6S rs67 m67 1 (F67 F68)) :=
 z0y mixed z0i (Δ := [(68, mkCall ps68 rs68 F68)]) ⟨.inl h68, trivial⟩ ⟨Tryz.func67, rfl, by kernel_rfl, by kernel_rfl, by kernel_rfl, by kernel_rfl, by kernel_rfl, by kernel_rfl, by kernel_rfl, by kernel_rfl, by kernel_rfl⟩ rfl (z0b (Λ := []) (cs := []) (by kernel_rfl) (by kernel_rfl) (by kernel_rfl) trivial)
abbrev z6V : Shape := ⟨[(0, .pt 0 0), (1, .d true tA)], [.box 76 [.ro 1, .d false tI], .nr tT tC 114 110]⟩
abbrev m26 : List Nat := [0]
abbrev rs26 : Shape := ⟨[(0, .pt 0 0), (1, .d false tI)], [.box 76 [.ro 1, .d false tI], .nr tT tC 114 110]⟩
abbrev TF26 := z6V.den → Option rs26.den
noncomputable def F26 (F51 : TF51) (F65 : TF65) (F67 : TF67) : TF26 := z1c tb [(51, mkCall ps51 rs51 F51), (65, mkCall ps65 rs65 F65), (67, mkCallB z6S rs67 m67 1 F67)] [] Tryz.f26 z6V rs26 1
theorem call26 {F51 : TF51} {F65 : TF65} {F67 : TF67} (h51 : z0a Tryz.prog 51 (mkCall ps51 rs51 F51)) (h65 : z0a Tryz.prog 65 (mkCall ps65 rs65 F65)) (h67 : z0a Tryz.prog 67 (mkCallB z6S rs67 m67 1 F67)) : z0a Tryz.prog 26 (mkCallB z6V rs26 m26 1 (F26 F51 F65 F67)) :=
 z0y mixed z0i (Δ := [(51, mkCall ps51 rs51 F51), (65, mkCall ps65 rs65 F65), (67, mkCallB z6S rs67 m67 1 F67)]) ⟨.inl h51, .inl h65, .inl h67, trivial⟩ ⟨Tryz.func26, rfl, by kernel_rfl, by kernel_rfl, by kernel_rfl, by kernel_rfl, by kernel_rfl, by kernel_rfl, by kernel_rfl, by kernel_rfl, by kernel_rfl⟩ rfl (z0b (Λ := []) (cs := []) (by kernel_rfl) (by kernel_rfl) (by kernel_rfl) trivial)
abbrev z6U : Shape := ⟨[(0, .pt 0 0), (1, .d false (.int .u64)), (2, .d false tI)], [.box 76 [.ro 1, .d false tI], .nr tT tC 114 110]⟩
abbrev m27 : List Nat := [0]
abbrev rs27 : Shape := ⟨[(0, .pt 0 0), (1, .d true tA), (2, .d false tI)], [.box 76 [.ro 1, .d false tI], .nr tT tC 114 110]⟩
abbrev TF27 := z6U.den → Option rs27.den
noncomputable def F27 (F50 : TF50) (F51 : TF51) (F52 : TF52) (F68 : TF68) : TF27 := z1c tb [(50, mkCall ps50 rs50 F50), (51, mkCall ps51 rs51 F51), (52, mkCallB z6T rs52 m52 1 F52), (68, mkCall ps68 rs68 F68)] [] Tryz.f27 z6U rs27 1
theorem call27 {F50 : TF50} {F51 : TF51} {F52 : TF52} {F68 : TF68} (h50 : z0a Tryz.prog 50 (mkCall ps50 rs50 F50)) (h51 : z0a Tryz.prog 51 (mkCall ps51 rs51 F51)) (h52 : z0a Tryz.prog 52 (mkCallB z6T rs52 m52 1 F52)) (h68 : z0a Tryz.prog 68 (mkCall ps68 rs68 F68)) : z0a Tryz.prog 27 (mkCallB z6U rs27 m27 1 (F27 F50 F51 F52 F68)) :=
 z0y mixed z0i (Δ := [(50, mkCall ps50 rs50 F50), (51, mkCall ps51 rs51 F51), (52, mkCallB z6T rs52 m52 1 F52), (68, mkCall ps68 rs68 F68)]) ⟨.inl h50, .inl h51, .inl h52, .inl h68, trivial⟩ ⟨Tryz.func27, rfl, by kernel_rfl, by kernel_rfl, by kernel_rfl, by kernel_rfl, by kernel_rfl, by kernel_rfl, by kernel_rfl, by kernel_rfl, by kernel_rfl⟩ rfl (z0b (Λ := []) (cs := []) (by kernel_rfl) (by kernel_rfl) (by kernel_rfl) trivial)
abbrev ps29 : List SV := [.d false tS]
abbrev rs29 : Shape := ⟨[(0, .d false tI), (1, .d false tI)], []⟩
abbrev TF29 := SV.denL ps29 → Option rs29.den
noncomputable def F29 (F28 : TF28) (F70 : TF70) : TF29 := z0t tb [(28, mkCall ps28 rs28 F28), (70, mkCall ps70 rs70 F70)] [] Tryz.f29 ps29 rs29
theorem call29 {F28 : TF28} {F70 : TF70} (h28 : z0a Tryz.prog 28 (mkCall ps28 rs28 F28)) (h70 : z0a Tryz.prog 70 (mkCall ps70 rs70 F70)) : z0a Tryz.prog 29 (mkCall ps29 rs29 (F29 F28 F70)) :=
 z0f mixed z0i (Δ := [(28, mkCall ps28 rs28 F28), (70, mkCall ps70 rs70 F70)]) ⟨.inl h28, .inl h70, trivial⟩ ⟨Tryz.func29, rfl, by kernel_rfl, by kernel_rfl, by kernel_rfl, by kernel_rfl⟩ rfl (z0b (Λ := []) (cs := []) (by kernel_rfl) (by kernel_rfl) (by kernel_rfl) trivial)
abbrev ps9 : List SV := []
abbrev rs9 : Shape := ⟨[(0, .d false .bool)], []⟩
abbrev TF9 := SV.denL ps9 → Option rs9.den
noncomputable def F9 (F12 : TF12) (F14 : TF14) (F16 : TF16) (F17 : TF17) (F19 : TF19) (F22 : TF22) (F24 : TF24) (F25 : TF25) (F26 : TF26) (F27 : TF27) (F28 : TF28) (F29 : TF29) : TF9 := z0t tb [(12, mkCall ps12 rs12 F12), (14, mkCallB z6Y rs14 m14 1 F14), (16, mkCall ps16 rs16 F16), (17, mkCallB z6X rs17 m17 1 F17), (19, mkCallB z6W rs19 m19 1 F19), (22, mkCall ps22 rs22 F22), (24, mkCall ps24 rs24 F24), (25, mkCall ps25 rs25 F25), (26, mkCallB z6V rs26 m26 1 F26), (27, mkCallB z6U rs27 m27 1 F27), (28, mkCall ps28 rs28 F28), (29, mkCall ps29 rs29 F29)] [] Tryz.f9 ps9 rs9
theorem call9 {F12 : TF12} {F14 : TF14} {F16 : TF16} {F17 : TF17} {F19 : TF19} {F22 : TF22} {F24 : TF24} {F25 : TF25} {F26 : TF26} {F27 : TF27} {F28 : TF28} {F29 : TF29} (h12 : z0a Tryz.prog 12 (mkCall ps12 rs12 F12)) (h14 : z0a Tryz.prog 14 (mkCallB z6Y rs14 m14 1 F14)) (h16 : z0a Tryz.prog 16 (mkCall ps16 rs16 F16)) (h17 : z0a Tryz.prog 17 (mkCallB z6X rs17 m17 1 F17)) (h19 : z0a Tryz.prog 19 (mkCallB z6W rs19 m19 1 F19)) (h22 : z0a Tryz.prog 22 (mkCall ps22 rs22 F22)) (h24 : z0a Tryz.prog 24 (mkCall ps24 rs24 F24)) (h25 : z0a Tryz.prog 25 (mkCall ps25 rs25 F25)) (h26 : z0a Tryz.prog 26 (mkCallB z6V rs26 m26 1 F26)) (h27 : z0a Tryz.prog 27 (mkCallB z6U rs27 m27 1 F27)) (h28 : z0a Tryz.prog 28 (mkCall ps28 rs28 F28)) (h29 : z0a Tryz.prog 29 (mkCall ps29 rs29 F29)) : z0a Tryz.prog 9 (mkCall ps9 rs9 (F9 F12 F14 F16 F17 F19 F22 F24 F25 F26 F27 F28 F29)) :=
 z0f mixed z0i (Δ := [(12, mkCall ps12 rs12 F12), (14, mkCallB z6Y rs14 m14 1 F14), (16, mkCall ps16 rs16 F16), (17, mkCallB z6X rs17 m17 1 F17), (19, mkCallB z6W rs19 m19 1 F19), (22, mkCall ps22 rs22 F22), (24, mkCall ps24 rs24 F24), (25, mkCall ps25 rs25 F25), (26, mkCallB z6V rs26 m26 1 F26), (27, mkCallB z6U rs27 m27 1 F27), (28, mkCall ps28 rs28 F28), (29, mkCall ps29 rs29 F29)]) ⟨.inl h12, .inl h14, .inl h16, .inl h17, .inl h19, .inl h22, .inl h24, .inl h25, .inl h26, .inl h27, .inl h28, .inl h29, trivial⟩ ⟨Tryz.func9, rfl, by kernel_rfl, by kernel_rfl, by kernel_rfl, by kernel_rfl⟩ rfl (z0b (Λ := []) (cs := []) (by kernel_rfl) (by kernel_rfl) (by kernel_rfl) trivial)
abbrev ps30 : List SV := []
abbrev rs30 : Shape := ⟨[(0, .pt 0 0)], [.box 123 [.ro 1, .d false tI], .nr tT tK 140 177]⟩
abbrev TF30 := SV.denL ps30 → Option rs30.den
noncomputable def F30 : TF30 := z0t tb [] [] Tryz.f30 ps30 rs30
theorem call30 : z0a Tryz.prog 30 (mkCall ps30 rs30 (F30)) :=
 z0f mixed z0i (Δ := []) trivial ⟨Tryz.func30, rfl, by kernel_rfl, by kernel_rfl, by kernel_rfl, by kernel_rfl⟩ rfl (z0b (Λ := []) (cs := []) (by kernel_rfl) (by kernel_rfl) (by kernel_rfl) trivial)
abbrev ps35 : List SV := [.ve [.d false (.sl (.pr tT (.sl tK))), .d false tI]]
abbrev rs35 : Shape := ⟨[(0, .d false tI)], []⟩
abbrev TF35 := SV.denL ps35 → Option rs35.den
noncomputable def F35 : TF35 := z0t tb [] [] Tryz.f35 ps35 rs35
theorem call35 : z0a Tryz.prog 35 (mkCall ps35 rs35 (F35)) :=
 z0f mixed z0i (Δ := []) trivial ⟨Tryz.func35, rfl, by kernel_rfl, by kernel_rfl, by kernel_rfl, by kernel_rfl⟩ rfl (z0b (Λ := []) (cs := []) (by kernel_rfl) (by kernel_rfl) (by kernel_rfl) trivial)
abbrev ps39 : List SV := [.d true tA]
abbrev rs39 : Shape := ⟨[(0, .d true tA)], []⟩
abbrev TF39 := SV.denL ps39 → Option rs39.den
noncomputable def F39 : TF39 := z0t tb [] [] Tryz.f39 ps39 rs39
theorem call39 : z0a Tryz.prog 39 (mkCall ps39 rs39 (F39)) :=
 z0f mixed z0i (Δ := []) trivial ⟨Tryz.func39, rfl, by kernel_rfl, by kernel_rfl, by kernel_rfl, by kernel_rfl⟩ rfl (z0b (Λ := []) (cs := []) (by kernel_rfl) (by kernel_rfl) (by kernel_rfl) trivial)
abbrev ps18 : List SV := [.d true (.pr tI (.pr (.int .u64) tA))]
abbrev rs18 : Shape := ⟨[(0, .d true (.pr tI (.pr (.int .u64) tA)))], []⟩
abbrev TF18 := SV.denL ps18 → Option rs18.den
noncomputable def F18 (F39 : TF39) : TF18 := z0t tb [(39, mkCall ps39 rs39 F39)] [] Tryz.f18 ps18 rs18
theorem call18 {F39 : TF39} (h39 : z0a Tryz.prog 39 (mkCall ps39 rs39 F39)) : z0a Tryz.prog 18 (mkCall ps18 rs18 (F18 F39)) :=
 z0f mixed z0i (Δ := [(39, mkCall ps39 rs39 F39)]) ⟨.inl h39, trivial⟩ ⟨Tryz.func18, rfl, by kernel_rfl, by kernel_rfl, by kernel_rfl, by kernel_rfl⟩ rfl (z0b (Λ := []) (cs := []) (by kernel_rfl) (by kernel_rfl) (by kernel_rfl) trivial)
abbrev psh20 : Shape := ⟨[(0, .pt 0 0), (1, .d true tA), (2, .d false tI)], [.box 76 [.ro 1, .d false tI], .nr tT tC 114 110]⟩
abbrev m20 : List Nat := [0]
abbrev rs20 : Shape := ⟨[(0, .pt 0 0), (1, .d false tI)], [.box 76 [.ro 1, .d false tI], .nr tT tC 114 110]⟩
abbrev TF20 := psh20.den → Option rs20.den
noncomputable def F20 (F55 : TF55) (F57 : TF57) : TF20 := z1c tb [(55, mkCall ps55 rs55 F55), (57, mkCallB z4W rs57 m57 1 F57)] [] Tryz.f20 psh20 rs20 1
theorem call20 {F55 : TF55} {F57 : TF57} (h55 : z0a Tryz.prog 55 (mkCall ps55 rs55 F55)) (h57 : z0a Tryz.prog 57 (mkCallB z4W rs57 m57 1 F57)) : z0a Tryz.prog 20 (mkCallB psh20 rs20 m20 1 (F20 F55 F57)) :=
 z0y mixed z0i (Δ := [(55, mkCall ps55 rs55 F55), (57, mkCallB z4W rs57 m57 1 F57)]) ⟨.inl h55, .inl h57, trivial⟩ ⟨Tryz.func20, rfl, by kernel_rfl, by kernel_rfl, by kernel_rfl, by kernel_rfl, by kernel_rfl, by kernel_rfl, by kernel_rfl, by kernel_rfl, by kernel_rfl⟩ rfl (z0b (Λ := []) (cs := []) (by kernel_rfl) (by kernel_rfl) (by kernel_rfl) trivial)
abbrev ps38 : List SV := [.d true tA]
abbrev rs38 : Shape := ⟨[(0, .d true tA)], []⟩
abbrev TF38 := SV.denL ps38 → Option rs38.den
noncomputable def F38 : TF38 := z0t tb [] [] Tryz.f38 ps38 rs38
theorem call38 : z0a Tryz.prog 38 (mkCall ps38 rs38 (F38)) :=
 z0f mixed z0i (Δ := []) trivial ⟨Tryz.func38, rfl, by kernel_rfl, by kernel_rfl, by kernel_rfl, by kernel_rfl⟩ rfl (z0b (Λ := []) (cs := []) (by kernel_rfl) (by kernel_rfl) (by kernel_rfl) trivial)
abbrev ps84 : List SV := [.ve [.d false (.sl (.pr tT (.sl tC))), .d false tI], .d false tI]
abbrev rs84 : Shape := ⟨[(0, .d false tI)], []⟩
abbrev TF84 := SV.denL ps84 → Option rs84.den
noncomputable def F84 (F49 : TF49) : TF84 := z0t tb [(49, mkCall ps49 rs49 F49)] [] Tryz.f84 ps84 rs84
theorem call84 {F49 : TF49} (h49 : z0a Tryz.prog 49 (mkCall ps49 rs49 F49)) : z0a Tryz.prog 84 (mkCall ps84 rs84 (F84 F49)) :=
 z0f mixed z0i (Δ := [(49, mkCall ps49 rs49 F49)]) ⟨.inl h49, trivial⟩ ⟨Tryz.func84, rfl, by kernel_rfl, by kernel_rfl, by kernel_rfl, by kernel_rfl⟩ rfl (z0b (Λ := []) (cs := []) (by kernel_rfl) (by kernel_rfl) (by kernel_rfl) trivial)
abbrev psh40 : Shape := ⟨[(0, .pt 0 0), (1, .d false tI)], [.box 76 [.ro 1, .d false tI], .nr tT tC 114 110]⟩
abbrev m40 : List Nat := [0]
abbrev rs40 : Shape := ⟨[(0, .pt 0 0), (1, .d false tI)], [.box 76 [.ro 1, .d false tI], .nr tT tC 114 110]⟩
abbrev TF40 := psh40.den → Option rs40.den
noncomputable def F40 (F67 : TF67) (F84 : TF84) : TF40 := z1c tb [(67, mkCallB z6S rs67 m67 1 F67), (84, mkCall ps84 rs84 F84)] [] Tryz.f40 psh40 rs40 1
theorem call40 {F67 : TF67} {F84 : TF84} (h67 : z0a Tryz.prog 67 (mkCallB z6S rs67 m67 1 F67)) (h84 : z0a Tryz.prog 84 (mkCall ps84 rs84 F84)) : z0a Tryz.prog 40 (mkCallB psh40 rs40 m40 1 (F40 F67 F84)) :=
 z0y mixed z0i (Δ := [(67, mkCallB z6S rs67 m67 1 F67), (84, mkCall ps84 rs84 F84)]) ⟨.inl h67, .inl h84, trivial⟩ ⟨Tryz.func40, rfl, by kernel_rfl, by kernel_rfl, by kernel_rfl, by kernel_rfl, by kernel_rfl, by kernel_rfl, by kernel_rfl, by kernel_rfl, by kernel_rfl⟩ rfl (z0b (Λ := []) (cs := []) (by kernel_rfl) (by kernel_rfl) (by kernel_rfl) trivial)
abbrev ps41 : List SV := [.d true (.pr tI (.pr (.int .u64) tA))]
abbrev rs41 : Shape := ⟨[(0, .d true (.pr tI (.pr (.int .u64) tA)))], []⟩
abbrev TF41 := SV.denL ps41 → Option rs41.den
noncomputable def F41 (F38 : TF38) : TF41 := z0t tb [(38, mkCall ps38 rs38 F38)] [] Tryz.f41 ps41 rs41
theorem call41 {F38 : TF38} (h38 : z0a Tryz.prog 38 (mkCall ps38 rs38 F38)) : z0a Tryz.prog 41 (mkCall ps41 rs41 (F41 F38)) :=
 z0f mixed z0i (Δ := [(38, mkCall ps38 rs38 F38)]) ⟨.inl h38, trivial⟩ ⟨Tryz.func41, rfl, by kernel_rfl, by kernel_rfl, by kernel_rfl, by kernel_rfl⟩ rfl (z0b (Λ := []) (cs := []) (by kernel_rfl) (by kernel_rfl) (by kernel_rfl) trivial)
abbrev ps86 : List SV := [.d true tC]
abbrev rs86 : Shape := ⟨[(0, .d false .bool)], []⟩
abbrev TF86 := SV.denL ps86 → Option rs86.den
noncomputable def F86 : TF86 := z0t tb [] [] Tryz.f86 ps86 rs86
theorem call86 : z0a Tryz.prog 86 (mkCall ps86 rs86 (F86)) :=
 z0f mixed z0i (Δ := []) trivial ⟨Tryz.func86, rfl, by kernel_rfl, by kernel_rfl, by kernel_rfl, by kernel_rfl⟩ rfl (z0b (Λ := []) (cs := []) (by kernel_rfl) (by kernel_rfl) (by kernel_rfl) trivial)
abbrev ps114 : List SV := [.d false (.sl tC), .d false (.fk 86)]
abbrev rs114 : Shape := ⟨[(0, .d false tI)], []⟩
abbrev TF114 := SV.denL ps114 → Option rs114.den
abbrev z3f : Shape := ⟨[(0, .d false (.sl tC)), (1, .fn 86 []), (7, .d false tI), (8, .d false tI)], []⟩
abbrev z5V : List Way := [(none, ⟨[(4, .d false tI)], []⟩), (some 0, ⟨[], []⟩)]
noncomputable def S114_2 (F86 : TF86) : z3f.den → Option (z3f.den ⊕ denX z5V) := z0W tb [(86, mkCall ps86 rs86 F86)] [] (upTo 19) Tryz.f114 2 z3f z5V
noncomputable def F114 (g114_2 : z3f.den → Option (denX z5V)) : TF114 := z0t tb [] [(2, lp z3f z5V g114_2)] Tryz.f114 ps114 rs114
theorem call114 {F86 : TF86} {g114_2 : z3f.den → Option (denX z5V)} (h86 : z0a Tryz.prog 86 (mkCall ps86 rs86 F86)) (hg114_2 : Lim (S114_2 F86) g114_2) : z0a Tryz.prog 114 (mkCall ps114 rs114 (F114 g114_2)) :=
 z0f mixed z0i (Δ := []) trivial ⟨Tryz.func114, rfl, by kernel_rfl, by kernel_rfl, by kernel_rfl, by kernel_rfl⟩ rfl (z0b (cs := [.loop (z0R Tryz.f114 2)]) (by kernel_rfl) (by kernel_rfl) (by kernel_rfl) ⟨z0p mixed z0i (Δ := [(86, mkCall ps86 rs86 F86)]) ⟨.inl h86, trivial⟩ hg114_2 (z0b (Λ := []) (cs := []) (by kernel_rfl) (by kernel_rfl) (by kernel_rfl) trivial), trivial⟩)
abbrev ps85 : List SV := [.d false (.sl tC), .d false (.fk 86)]
abbrev rs85 : Shape := ⟨[(0, .d false .bool)], []⟩
abbrev TF85 := SV.denL ps85 → Option rs85.den
noncomputable def F85 (F114 : TF114) : TF85 := z0t tb [(114, mkCall ps114 rs114 F114)] [] Tryz.f85 ps85 rs85
theorem call85 {F114 : TF114} (h114 : z0a Tryz.prog 114 (mkCall ps114 rs114 F114)) : z0a Tryz.prog 85 (mkCall ps85 rs85 (F85 F114)) :=
 z0f mixed z0i (Δ := [(114, mkCall ps114 rs114 F114)]) ⟨.inl h114, trivial⟩ ⟨Tryz.func85, rfl, by kernel_rfl, by kernel_rfl, by kernel_rfl, by kernel_rfl⟩ rfl (z0b (Λ := []) (cs := []) (by kernel_rfl) (by kernel_rfl) (by kernel_rfl) trivial)
abbrev ps88 : List SV := [.d true tC]
abbrev rs88 : Shape := ⟨[(0, .d false (.int .u8))], []⟩
abbrev TF88 := SV.denL ps88 → Option rs88.den
noncomputable def F88 : TF88 := z0t tb [] [] Tryz.f88 ps88 rs88
theorem call88 : z0a Tryz.prog 88 (mkCall ps88 rs88 (F88)) :=
 z0f mixed z0i (Δ := []) trivial ⟨Tryz.func88, rfl, by kernel_rfl, by kernel_rfl, by kernel_rfl, by kernel_rfl⟩ rfl (z0b (Λ := []) (cs := []) (by kernel_rfl) (by kernel_rfl) (by kernel_rfl) trivial)
abbrev ps87 : List SV := [.d false (.sl tC), .d false (.fk 88)]
abbrev rs87 : Shape := ⟨[(0, .rf 0)], [.row (.int .u8) 5]⟩
abbrev TF87 := SV.denL ps87 → Option rs87.den
abbrev z4F : Shape := ⟨[(1, .fn 88 []), (5, .rf 0), (8, .d false (.sl tC)), (9, .d false tI), (10, .d false tI)], [.row (.int .u8) 5]⟩
abbrev w87_3 : List Way := [(some 0, ⟨[(5, .rf 0)], [.row (.int .u8) 5]⟩)]
noncomputable def S87_3 (F88 : TF88) : z4F.den → Option (z4F.den ⊕ denX w87_3) := z0W tb [(88, mkCall ps88 rs88 F88)] [] (upTo 22) Tryz.f87 3 z4F w87_3
noncomputable def F87 (g87_3 : z4F.den → Option (denX w87_3)) : TF87 := z0t tb [] [(3, lp z4F w87_3 g87_3)] Tryz.f87 ps87 rs87
theorem call87 {F88 : TF88} {g87_3 : z4F.den → Option (denX w87_3)} (h88 : z0a Tryz.prog 88 (mkCall ps88 rs88 F88)) (hg87_3 : Lim (S87_3 F88) g87_3) : z0a Tryz.prog 87 (mkCall ps87 rs87 (F87 g87_3)) :=
 z0f mixed z0i (Δ := []) trivial ⟨Tryz.func87, rfl, by kernel_rfl, by kernel_rfl, by kernel_rfl, by kernel_rfl⟩ rfl (z0b (cs := [.loop (z0R Tryz.f87 3)]) (by kernel_rfl) (by kernel_rfl) (by kernel_rfl) ⟨z0p mixed z0i (Δ := [(88, mkCall ps88 rs88 F88)]) ⟨.inl h88, trivial⟩ hg87_3 (z0b (Λ := []) (cs := []) (by kernel_rfl) (by kernel_rfl) (by kernel_rfl) trivial), trivial⟩)
abbrev ps42 : List SV := [.ve [.d false (.sl (.pr tT (.sl tC))), .d false tI], .d true tA, .d false tI]
abbrev rs42 : Shape := ⟨[(0, .rf 0), (1, .d false tI)], [.row (.int .u8) 5]⟩
abbrev TF42 := SV.denL ps42 → Option rs42.den
noncomputable def F42 (F55 : TF55) (F57v : TF57v) (F85 : TF85) (F87 : TF87) : TF42 := z0t tb [(55, mkCall ps55 rs55 F55), (57, mkCall z6Z z6i F57v), (85, mkCall ps85 rs85 F85), (87, mkCall ps87 rs87 F87)] [] Tryz.f42 ps42 rs42
theorem call42 {F55 : TF55} {F57v : TF57v} {F85 : TF85} {F87 : TF87} (h55 : z0a Tryz.prog 55 (mkCall ps55 rs55 F55)) (h57v : z0a Tryz.prog 57 (mkCall z6Z z6i F57v)) (h85 : z0a Tryz.prog 85 (mkCall ps85 rs85 F85)) (h87 : z0a Tryz.prog 87 (mkCall ps87 rs87 F87)) : z0a Tryz.prog 42 (mkCall ps42 rs42 (F42 F55 F57v F85 F87)) :=
 z0f mixed z0i (Δ := [(55, mkCall ps55 rs55 F55), (57, mkCall z6Z z6i F57v), (85, mkCall ps85 rs85 F85), (87, mkCall ps87 rs87 F87)]) ⟨.inl h55, .inl h57v, .inl h85, .inl h87, trivial⟩ ⟨Tryz.func42, rfl, by kernel_rfl, by kernel_rfl, by kernel_rfl, by kernel_rfl⟩ rfl (z0b (Λ := []) (cs := []) (by kernel_rfl) (by kernel_rfl) (by kernel_rfl) trivial)
abbrev z8a : Shape := ⟨[(0, .pt 0 0), (1, .d false tI), (2, .d false tI), (3, .d false tI)], [.box 76 [.ro 1, .d false tI], .nr tT tC 114 110]⟩
abbrev m89 : List Nat := [0, 1]
abbrev rs89 : Shape := ⟨[(0, .pt 0 0), (1, .fs 1 4), (2, .d false tI)], [.box 76 [.ro 1, .d false tI], .nr tT tC 114 110]⟩
abbrev TF89 := z8a.den → Option rs89.den
noncomputable def F89 (F84 : TF84) : TF89 := runFnBI tb [(84, mkCall ps84 rs84 F84)] Tryz.f89 z8a rs89 m89 1
theorem call89 {F84 : TF84} (h84 : z0a Tryz.prog 84 (mkCall ps84 rs84 F84)) : z0a Tryz.prog 89 (mkCallB z8a rs89 m89 1 (F89 F84)) :=
 z8p mixed z0i (Δ := [(84, mkCall ps84 rs84 F84)]) ⟨.inl h84, trivial⟩ ⟨Tryz.func89, rfl, by kernel_rfl, by kernel_rfl, by kernel_rfl, by kernel_rfl, by kernel_rfl, by kernel_rfl, by kernel_rfl, by kernel_rfl, by kernel_rfl, by kernel_rfl⟩ rfl
abbrev psh43 : Shape := ⟨[(0, .pt 0 0), (1, .d false tI), (2, .d false tI), (3, .d false (.sl (.int .u8))), (4, .d false (.sl .bool))], [.box 76 [.ro 1, .d false tI], .nr tT tC 114 110]⟩
abbrev m43 : List Nat := [0]
abbrev rs43 : Shape := ⟨[(0, .pt 0 0), (1, .d false tI)], [.box 76 [.ro 1, .d false tI], .nr tT tC 114 110]⟩
abbrev TF43 := psh43.den → Option rs43.den
abbrev z4J : Shape := ⟨[(0, .pt 0 0), (4, .d false (.sl .bool)), (11, .fs 1 4), (41, .d false (.sl (.int .u8))), (42, .d false tI), (43, .d false tI)], [.box 76 [.ro 1, .d false tI], .nr tT tC 114 110]⟩
abbrev w43_6 : List Way := [(some 0, ⟨[(0, .pt 0 0)], [.box 76 [.ro 1, .d false tI], .nr tT tC 114 110]⟩)]
noncomputable def S43_6 : z4J.den → Option (z4J.den ⊕ denX w43_6) := z0W tb [] [] (z0L (upTo 67) (z0v 0 1)) Tryz.f43 6 z4J w43_6
noncomputable def F43 (F48 : TF48) (F49 : TF49) (F89 : TF89) (g43_6 : z4J.den → Option (denX w43_6)) : TF43 := z1c tb [(48, mkCall ps48 rs48 F48), (49, mkCall ps49 rs49 F49), (89, mkCallB z8a rs89 m89 1 F89)] [(6, lp z4J w43_6 g43_6)] Tryz.f43 psh43 rs43 1
theorem call43 {F48 : TF48} {F49 : TF49} {F89 : TF89} {g43_6 : z4J.den → Option (denX w43_6)} (h48 : z0a Tryz.prog 48 (mkCall ps48 rs48 F48)) (h49 : z0a Tryz.prog 49 (mkCall ps49 rs49 F49)) (h89 : z0a Tryz.prog 89 (mkCallB z8a rs89 m89 1 F89)) (hg43_6 : Lim (S43_6) g43_6) : z0a Tryz.prog 43 (mkCallB psh43 rs43 m43 1 (F43 F48 F49 F89 g43_6)) :=
 z0y mixed z0i (Δ := [(48, mkCall ps48 rs48 F48), (49, mkCall ps49 rs49 F49), (89, mkCallB z8a rs89 m89 1 F89)]) ⟨.inl h48, .inl h49, .inl h89, trivial⟩ ⟨Tryz.func43, rfl, by kernel_rfl, by kernel_rfl, by kernel_rfl, by kernel_rfl, by kernel_rfl, by kernel_rfl, by kernel_rfl, by kernel_rfl, by kernel_rfl⟩ rfl (z0b (cs := [.loop (z0R Tryz.f43 6)]) (by kernel_rfl) (by kernel_rfl) (by kernel_rfl) ⟨z0p mixed z0i (Δ := []) trivial hg43_6 (z0b (Λ := []) (cs := []) (by kernel_rfl) (by kernel_rfl) (by kernel_rfl) trivial), trivial⟩)
abbrev ps44 : List SV := [.d false (.sl (.int .u8))]
abbrev rs44 : Shape := ⟨[(0, .rf 0)], [.row (.int .u8) 5]⟩
abbrev TF44 := SV.denL ps44 → Option rs44.den
noncomputable def F44 : TF44 := z0t tb [] [] Tryz.f44 ps44 rs44
theorem call44 : z0a Tryz.prog 44 (mkCall ps44 rs44 (F44)) :=
 z0f mixed z0i (Δ := []) trivial ⟨Tryz.func44, rfl, by kernel_rfl, by kernel_rfl, by kernel_rfl, by kernel_rfl⟩ rfl (z0b (Λ := []) (cs := []) (by kernel_rfl) (by kernel_rfl) (by kernel_rfl) trivial)
abbrev ps45 : List SV := [.d false (.sl .bool)]
abbrev rs45 : Shape := ⟨[(0, .rf 0)], [.row .bool 4]⟩
abbrev TF45 := SV.denL ps45 → Option rs45.den
noncomputable def F45 : TF45 := z0t tb [] [] Tryz.f45 ps45 rs45
theorem call45 : z0a Tryz.prog 45 (mkCall ps45 rs45 (F45)) :=
 z0f mixed z0i (Δ := []) trivial ⟨Tryz.func45, rfl, by kernel_rfl, by kernel_rfl, by kernel_rfl, by kernel_rfl⟩ rfl (z0b (Λ := []) (cs := []) (by kernel_rfl) (by kernel_rfl) (by kernel_rfl) trivial)
abbrev psh46 : Shape := ⟨[(0, .pt 0 0), (1, .d false tI), (2, .d false tI), (3, .d true tA)], [.box 76 [.ro 1, .d false tI], .nr tT tC 114 110]⟩
abbrev m46 : List Nat := [0]
abbrev rs46 : Shape := ⟨[(0, .pt 0 0), (1, .d false tI)], [.box 76 [.ro 1, .d false tI], .nr tT tC 114 110]⟩
abbrev TF46 := psh46.den → Option rs46.den
noncomputable def F46 (F48 : TF48) (F49 : TF49) (F58 : TF58) (F65 : TF65) (F89 : TF89) : TF46 := z1c tb [(48, mkCall ps48 rs48 F48), (49, mkCall ps49 rs49 F49), (58, mkCall ps58 rs58 F58), (65, mkCall ps65 rs65 F65), (89, mkCallB z8a rs89 m89 1 F89)] [] Tryz.f46 psh46 rs46 1
theorem call46 {F48 : TF48} {F49 : TF49} {F58 : TF58} {F65 : TF65} {F89 : TF89} (h48 : z0a Tryz.prog 48 (mkCall ps48 rs48 F48)) (h49 : z0a Tryz.prog 49 (mkCall ps49 rs49 F49)) (h58 : z0a Tryz.prog 58 (mkCall ps58 rs58 F58)) (h65 : z0a Tryz.prog 65 (mkCall ps65 rs65 F65)) (h89 : z0a Tryz.prog 89 (mkCallB z8a rs89 m89 1 F89)) : z0a Tryz.prog 46 (mkCallB psh46 rs46 m46 1 (F46 F48 F49 F58 F65 F89)) :=
 z0y mixed z0i (Δ := [(48, mkCall ps48 rs48 F48), (49, mkCall ps49 rs49 F49), (58, mkCall ps58 rs58 F58), (65, mkCall ps65 rs65 F65), (89, mkCallB z8a rs89 m89 1 F89)]) ⟨.inl h48, .inl h49, .inl h58, .inl h65, .inl h89, trivial⟩ ⟨Tryz.func46, rfl, by kernel_rfl, by kernel_rfl, by kernel_rfl, by kernel_rfl, by kernel_rfl, by kernel_rfl, by kernel_rfl, by kernel_rfl, by kernel_rfl⟩ rfl (z0b (Λ := []) (cs := []) (by kernel_rfl) (by kernel_rfl) (by kernel_rfl) trivial)
abbrev ps47 : List SV := [.ve [.d false (.sl (.pr tT (.sl tC))), .d false tI], .d true tA, .d false tI]
abbrev rs47 : Shape := ⟨[(0, .d true tA), (1, .d false tI)], []⟩
abbrev TF47 := SV.denL ps47 → Option rs47.den
noncomputable def F47 (F51 : TF51) (F65 : TF65) : TF47 := z0t tb [(51, mkCall ps51 rs51 F51), (65, mkCall ps65 rs65 F65)] [] Tryz.f47 ps47 rs47
theorem call47 {F51 : TF51} {F65 : TF65} (h51 : z0a Tryz.prog 51 (mkCall ps51 rs51 F51)) (h65 : z0a Tryz.prog 65 (mkCall ps65 rs65 F65)) : z0a Tryz.prog 47 (mkCall ps47 rs47 (F47 F51 F65)) :=
 z0f mixed z0i (Δ := [(51, mkCall ps51 rs51 F51), (65, mkCall ps65 rs65 F65)]) ⟨.inl h51, .inl h65, trivial⟩ ⟨Tryz.func47, rfl, by kernel_rfl, by kernel_rfl, by kernel_rfl, by kernel_rfl⟩ rfl (z0b (Λ := []) (cs := []) (by kernel_rfl) (by kernel_rfl) (by kernel_rfl) trivial)
abbrev psh13 : Shape := ⟨[(0, .pt 0 0), (1, .d true (.pr tI (.pr tS (.pr tA (.pr tA (.pr tI (.pr tI (.pr .bool (.pr (.int .u64) (.pr (.pr tI (.pr (.int .u64) tA)) (.pr (.sl (.int .u8)) (.sl .bool))))))))))))], [.box 76 [.ro 1, .d false tI], .nr tT tC 114 110]⟩
abbrev m13 : List Nat := [0]
abbrev rs13 : Shape := ⟨[(0, .pt 0 0), (1, .d true (.pr tA (.pr (.pr tI (.pr (.int .u64) tA)) (.pr .bool (.pr tI (.sl (.int .u8)))))))], [.box 76 [.ro 1, .d false tI], .nr tT tC 114 110]⟩
abbrev TF13 := psh13.den → Option rs13.den
noncomputable def F13 (F14 : TF14) (F16 : TF16) (F17 : TF17) (F18 : TF18) (F19 : TF19) (F20 : TF20) (F25 : TF25) (F26 : TF26) (F27 : TF27) (F38 : TF38) (F39 : TF39) (F40 : TF40) (F41 : TF41) (F42 : TF42) (F43 : TF43) (F44 : TF44) (F45 : TF45) (F46 : TF46) (F47 : TF47) : TF13 := z1c tb [(14, mkCallB z6Y rs14 m14 1 F14), (16, mkCall ps16 rs16 F16), (17, mkCallB z6X rs17 m17 1 F17), (18, mkCall ps18 rs18 F18), (19, mkCallB z6W rs19 m19 1 F19), (20, mkCallB psh20 rs20 m20 1 F20), (25, mkCall ps25 rs25 F25), (26, mkCallB z6V rs26 m26 1 F26), (27, mkCallB z6U rs27 m27 1 F27), (38, mkCall ps38 rs38 F38), (39, mkCall ps39 rs39 F39), (40, mkCallB psh40 rs40 m40 1 F40), (41, mkCall ps41 rs41 F41), (42, mkCall ps42 rs42 F42), (43, mkCallB psh43 rs43 m43 1 F43), (44, mkCall ps44 rs44 F44), (45, mkCall ps45 rs45 F45), (46, mkCallB psh46 rs46 m46 1 F46), (47, mkCall ps47 rs47 F47)] [] Tryz.f13 psh13 rs13 1
theorem call13 {F14 : TF14} {F16 : TF16} {F17 : TF17} {F18 : TF18} {F19 : TF19} {F20 : TF20} {F25 : TF25} {F26 : TF26} {F27 : TF27} {F38 : TF38} {F39 : TF39} {F40 : TF40} {F41 : TF41} {F42 : TF42} {F43 : TF43} {F44 : TF44} {F45 : TF45} {F46 : TF46} {F47 : TF47} (h14 : z0a Tryz.prog 14 (mkCallB z6Y rs14 m14 1 F14)) (h16 : z0a Tryz.prog 16 (mkCall ps16 rs16 F16)) (h17 : z0a Tryz.prog 17 (mkCallB z6X rs17 m17 1 F17)) (h18 : z0a Tryz.prog 18 (mkCall ps18 rs18 F18)) (h19 : z0a Tryz.prog 19 (mkCallB z6W rs19 m19 1 F19)) (h20 : z0a Tryz.prog 20 (mkCallB psh20 rs20 m20 1 F20)) (h25 : z0a Tryz.prog 25 (mkCall ps25 rs25 F25)) (h26 : z0a Tryz.prog 26 (mkCallB z6V rs26 m26 1 F26)) (h27 : z0a Tryz.prog 27 (mkCallB z6U rs27 m27 1 F27)) (h38 : z0a Tryz.prog 38 (mkCall ps38 rs38 F38)) (h39 : z0a Tryz.prog 39 (mkCall ps39 rs39 F39)) (h40 : z0a Tryz.prog 40 (mkCallB psh40 rs40 m40 1 F40)) (h41 : z0a Tryz.prog 41 (mkCall ps41 rs41 F41)) (h42 : z0a Tryz.prog 42 (mkCall ps42 rs42 F42)) (h43 : z0a Tryz.prog 43 (mkCallB psh43 rs43 m43 1 F43)) (h44 : z0a Tryz.prog 44 (mkCall ps44 rs44 F44)) (h45 : z0a Tryz.prog 45 (mkCall ps45 rs45 F45)) (h46 : z0a Tryz.prog 46 (mkCallB psh46 rs46 m46 1 F46)) (h47 : z0a Tryz.prog 47 (mkCall ps47 rs47 F47)) : z0a Tryz.prog 13 (mkCallB psh13 rs13 m13 1 (F13 F14 F16 F17 F18 F19 F20 F25 F26 F27 F38 F39 F40 F41 F42 F43 F44 F45 F46 F47)) :=
 z0y mixed z0i (Δ := [(14, mkCallB z6Y rs14 m14 1 F14), (16, mkCall ps16 rs16 F16), (17, mkCallB z6X rs17 m17 1 F17), (18, mkCall ps18 rs18 F18), (19, mkCallB z6W rs19 m19 1 F19), (20, mkCallB psh20 rs20 m20 1 F20), (25, mkCall ps25 rs25 F25), (26, mkCallB z6V rs26 m26 1 F26), (27, mkCallB z6U rs27 m27 1 F27), (38, mkCall ps38 rs38 F38), (39, mkCall ps39 rs39 F39), (40, mkCallB psh40 rs40 m40 1 F40), (41, mkCall ps41 rs41 F41), (42, mkCall ps42 rs42 F42), (43, mkCallB psh43 rs43 m43 1 F43), (44, mkCall ps44 rs44 F44), (45, mkCall ps45 rs45 F45), (46, mkCallB psh46 rs46 m46 1 F46), (47, mkCall ps47 rs47 F47)]) ⟨.inl h14, .inl h16, .inl h17, .inl h18, .inl h19, .inl h20, .inl h25, .inl h26, .inl h27, .inl h38, .inl h39, .inl h40, .inl h41, .inl h42, .inl h43, .inl h44, .inl h45, .inl h46, .inl h47, trivial⟩ ⟨Tryz.func13, rfl, by kernel_rfl, by kernel_rfl, by kernel_rfl, by kernel_rfl, by kernel_rfl, by kernel_rfl, by kernel_rfl, by kernel_rfl, by kernel_rfl⟩ rfl (z0b (Λ := []) (cs := []) (by kernel_rfl) (by kernel_rfl) (by kernel_rfl) trivial)
abbrev ps61 : List SV := [.d false (.sl (.int .u8)), .d false (.sl (.int .u8))]
abbrev rs61 : Shape := ⟨[(0, .d false .bool)], []⟩
abbrev TF61 := SV.denL ps61 → Option rs61.den
noncomputable def F61 : TF61 := z0t tb [] [] Tryz.f61 ps61 rs61
theorem call61 : z0a Tryz.prog 61 (mkCall ps61 rs61 (F61)) :=
 z0f mixed z0i (Δ := []) trivial ⟨Tryz.func61, rfl, by kernel_rfl, by kernel_rfl, by kernel_rfl, by kernel_rfl⟩ rfl (z0b (Λ := []) (cs := []) (by kernel_rfl) (by kernel_rfl) (by kernel_rfl) trivial)
abbrev ps21 : List SV := [.d true (.pr tA (.pr (.pr tI (.pr (.int .u64) tA)) (.pr .bool (.pr tI (.sl (.int .u8)))))), .d true (.pr tA (.pr (.pr tI (.pr (.int .u64) tA)) (.pr .bool (.pr tI (.sl (.int .u8))))))]
abbrev rs21 : Shape := ⟨[(0, .d false .bool)], []⟩
abbrev TF21 := SV.denL ps21 → Option rs21.den
noncomputable def F21 (F61 : TF61) : TF21 := z0t tb [(61, mkCall ps61 rs61 F61)] [] Tryz.f21 ps21 rs21
theorem call21 {F61 : TF61} (h61 : z0a Tryz.prog 61 (mkCall ps61 rs61 F61)) : z0a Tryz.prog 21 (mkCall ps21 rs21 (F21 F61)) :=
 z0f mixed z0i (Δ := [(61, mkCall ps61 rs61 F61)]) ⟨.inl h61, trivial⟩ ⟨Tryz.func21, rfl, by kernel_rfl, by kernel_rfl, by kernel_rfl, by kernel_rfl⟩ rfl (z0b (Λ := []) (cs := []) (by kernel_rfl) (by kernel_rfl) (by kernel_rfl) trivial)
abbrev ps100 : List SV := [.d false (.sl tI)]
abbrev rs100 : Shape := ⟨[(0, .d false tI)], []⟩
abbrev TF100 := SV.denL ps100 → Option rs100.den
abbrev z3i : Shape := ⟨[(0, .d false (.sl tI)), (3, .d false tI)], []⟩
abbrev z5Y : List Way := [(none, ⟨[(2, .d false tI)], []⟩), (some 0, ⟨[], []⟩)]
noncomputable def S100_2 : z3i.den → Option (z3i.den ⊕ denX z5Y) := z0W tb [] [] (upTo 19) Tryz.f100 2 z3i z5Y
noncomputable def F100 (g100_2 : z3i.den → Option (denX z5Y)) : TF100 := z0t tb [] [(2, lp z3i z5Y g100_2)] Tryz.f100 ps100 rs100
theorem call100 {g100_2 : z3i.den → Option (denX z5Y)} (hg100_2 : Lim (S100_2) g100_2) : z0a Tryz.prog 100 (mkCall ps100 rs100 (F100 g100_2)) :=
 z0f mixed z0i (Δ := []) trivial ⟨Tryz.func100, rfl, by kernel_rfl, by kernel_rfl, by kernel_rfl, by kernel_rfl⟩ rfl (z0b (cs := [.loop (z0R Tryz.f100 2)]) (by kernel_rfl) (by kernel_rfl) (by kernel_rfl) ⟨z0p mixed z0i (Δ := []) trivial hg100_2 (z0b (Λ := []) (cs := []) (by kernel_rfl) (by kernel_rfl) (by kernel_rfl) trivial), trivial⟩)
abbrev z8e : List SV := [.d false .bool, .d false tI]
abbrev z6K : Shape := ⟨[(0, .d false tI)], []⟩
abbrev TF101 := SV.denL z8e → Option z6K.den
noncomputable def F101 : TF101 := z0t tb [] [] Tryz.f101 z8e z6K
theorem call101 : z0a Tryz.prog 101 (mkCall z8e z6K (F101)) :=
 z0f mixed z0i (Δ := []) trivial ⟨Tryz.func101, rfl, by kernel_rfl, by kernel_rfl, by kernel_rfl, by kernel_rfl⟩ rfl (z0b (Λ := []) (cs := []) (by kernel_rfl) (by kernel_rfl) (by kernel_rfl) trivial)
abbrev z8d : List SV := [.d false tI]
abbrev z6J : Shape := ⟨[(0, .d false .bool)], []⟩
abbrev TF102 := SV.denL z8d → Option z6J.den
noncomputable def F102 : TF102 := z0t tb [] [] Tryz.f102 z8d z6J
theorem call102 : z0a Tryz.prog 102 (mkCall z8d z6J (F102)) :=
 z0f mixed z0i (Δ := []) trivial ⟨Tryz.func102, rfl, by kernel_rfl, by kernel_rfl, by kernel_rfl, by kernel_rfl⟩ rfl (z0b (Λ := []) (cs := []) (by kernel_rfl) (by kernel_rfl) (by kernel_rfl) trivial)
abbrev z2B : List SV := []
abbrev z2u : Shape := ⟨[(0, .d true tA)], []⟩
abbrev z2Z := SV.denL z2B → Option z2u.den
noncomputable def F103 : z2Z := z0t tb [] [] Tryz.f103 z2B z2u
theorem call103 : z0a Tryz.prog 103 (mkCall z2B z2u (F103)) :=
 z0f mixed z0i (Δ := []) trivial ⟨Tryz.func103, rfl, by kernel_rfl, by kernel_rfl, by kernel_rfl, by kernel_rfl⟩ rfl (z0b (Λ := []) (cs := []) (by kernel_rfl) (by kernel_rfl) (by kernel_rfl) trivial)
abbrev z5C : List SV := [.d false tI]
abbrev z4S : Shape := ⟨[(0, .d false tI)], []⟩
abbrev z7J := SV.denL z5C → Option z4S.den
noncomputable def F105 : z7J := z0t tb [] [] Tryz.f105 z5C z4S
theorem call105 : z0a Tryz.prog 105 (mkCall z5C z4S (F105)) :=
 z0f mixed z0i (Δ := []) trivial ⟨Tryz.func105, rfl, by kernel_rfl, by kernel_rfl, by kernel_rfl, by kernel_rfl⟩ rfl (z0b (Λ := []) (cs := []) (by kernel_rfl) (by kernel_rfl) (by kernel_rfl) trivial)
abbrev z4k : Shape := ⟨[(0, .pt 0 0), (1, .d false tI), (2, .d false tI), (3, .d false tI), (4, .d false .bool)], [.box 123 [.ro 1, .d false tI], .nr tT tK 140 177]⟩
abbrev m104 : List Nat := [0]
abbrev z6I : Shape := ⟨[(0, .pt 0 0), (1, .d true tA)], [.box 123 [.ro 1, .d false tI], .nr tT tK 140 177]⟩
abbrev TF104 := z4k.den → Option z6I.den
noncomputable def F104 (F105 : z7J) : TF104 := z1c tb [(105, mkCall z5C z4S F105)] [] Tryz.f104 z4k z6I 1
theorem call104 {F105 : z7J} (h105 : z0a Tryz.prog 105 (mkCall z5C z4S F105)) : z0a Tryz.prog 104 (mkCallB z4k z6I m104 1 (F104 F105)) :=
 z0y mixed z0i (Δ := [(105, mkCall z5C z4S F105)]) ⟨.inl h105, trivial⟩ ⟨Tryz.func104, rfl, by kernel_rfl, by kernel_rfl, by kernel_rfl, by kernel_rfl, by kernel_rfl, by kernel_rfl, by kernel_rfl, by kernel_rfl, by kernel_rfl⟩ rfl (z0b (Λ := []) (cs := []) (by kernel_rfl) (by kernel_rfl) (by kernel_rfl) trivial)
abbrev psh71 : Shape := ⟨[(0, .pt 0 0), (1, .d false tI), (2, .d false tI), (3, .d false tI), (4, .d false .bool)], [.box 123 [.ro 1, .d false tI], .nr tT tK 140 177]⟩
abbrev m71 : List Nat := [0]
abbrev rs71 : Shape := ⟨[(0, .pt 0 0), (1, .d true tA), (2, .d false tI)], [.box 123 [.ro 1, .d false tI], .nr tT tK 140 177]⟩
abbrev TF71 := psh71.den → Option rs71.den
noncomputable def F71 (F100 : TF100) (F101 : TF101) (F102 : TF102) (F103 : z2Z) (F104 : TF104) : TF71 := z1c tb [(100, mkCall ps100 rs100 F100), (101, mkCall z8e z6K F101), (102, mkCall z8d z6J F102), (103, mkCall z2B z2u F103), (104, mkCallB z4k z6I m104 1 F104)] [] Tryz.f71 psh71 rs71 1
theorem call71 {F100 : TF100} {F101 : TF101} {F102 : TF102} {F103 : z2Z} {F104 : TF104} (h100 : z0a Tryz.prog 100 (mkCall ps100 rs100 F100)) (h101 : z0a Tryz.prog 101 (mkCall z8e z6K F101)) (h102 : z0a Tryz.prog 102 (mkCall z8d z6J F102)) (h103 : z0a Tryz.prog 103 (mkCall z2B z2u F103)) (h104 : z0a Tryz.prog 104 (mkCallB z4k z6I m104 1 F104)) : z0a Tryz.prog 71 (mkCallB psh71 rs71 m71 1 (F71 F100 F101 F102 F103 F104)) :=
 z0y mixed z0i (Δ := [(100, mkCall ps100 rs100 F100), (101, mkCall z8e z6K F101), (102, mkCall z8d z6J F102), (103, mkCall z2B z2u F103), (104, mkCallB z4k z6I m104 1 F104)]) ⟨.inl h100, .inl h101, .inl h102, .inl h103, .inl h104, trivial⟩ ⟨Tryz.func71, rfl, by kernel_rfl, by kernel_rfl, by kernel_rfl, by kernel_rfl, by kernel_rfl, by kernel_rfl, by kernel_rfl, by kernel_rfl, by kernel_rfl⟩ rfl (z0b (Λ := []) (cs := []) (by kernel_rfl) (by kernel_rfl) (by kernel_rfl) trivial)
abbrev psh72 : Shape := ⟨[(0, .pt 0 0), (1, .d false (.int .u64)), (2, .d false tI)], [.box 123 [.ro 1, .d false tI], .nr tT tK 140 177]⟩
abbrev m72 : List Nat := [0]
abbrev rs72 : Shape := ⟨[(0, .pt 0 0), (1, .d true tA), (2, .d false tI)], [.box 123 [.ro 1, .d false tI], .nr tT tK 140 177]⟩
abbrev TF72 := psh72.den → Option rs72.den
noncomputable def F72 (F102 : TF102) (F103 : z2Z) (F104 : TF104) (F105 : z7J) : TF72 := z1c tb [(102, mkCall z8d z6J F102), (103, mkCall z2B z2u F103), (104, mkCallB z4k z6I m104 1 F104), (105, mkCall z5C z4S F105)] [] Tryz.f72 psh72 rs72 1
theorem call72 {F102 : TF102} {F103 : z2Z} {F104 : TF104} {F105 : z7J} (h102 : z0a Tryz.prog 102 (mkCall z8d z6J F102)) (h103 : z0a Tryz.prog 103 (mkCall z2B z2u F103)) (h104 : z0a Tryz.prog 104 (mkCallB z4k z6I m104 1 F104)) (h105 : z0a Tryz.prog 105 (mkCall z5C z4S F105)) : z0a Tryz.prog 72 (mkCallB psh72 rs72 m72 1 (F72 F102 F103 F104 F105)) :=
 z0y mixed z0i (Δ := [(102, mkCall z8d z6J F102), (103, mkCall z2B z2u F103), (104, mkCallB z4k z6I m104 1 F104), (105, mkCall z5C z4S F105)]) ⟨.inl h102, .inl h103, .inl h104, .inl h105, trivial⟩ ⟨Tryz.func72, rfl, by kernel_rfl, by kernel_rfl, by kernel_rfl, by kernel_rfl, by kernel_rfl, by kernel_rfl, by kernel_rfl, by kernel_rfl, by kernel_rfl⟩ rfl (z0b (Λ := []) (cs := []) (by kernel_rfl) (by kernel_rfl) (by kernel_rfl) trivial)
abbrev z2w : List SV := [.ve [.d false (.sl (.pr tT (.sl tK))), .d false tI], .d true tA]
abbrev z2j : Shape := ⟨[(0, .d false .bool)], []⟩
abbrev z2M := SV.denL z2w → Option z2j.den
noncomputable def F106 : z2M := z0t tb [] [] Tryz.f106 z2w z2j
theorem call106 : z0a Tryz.prog 106 (mkCall z2w z2j (F106)) :=
 z0f mixed z0i (Δ := []) trivial ⟨Tryz.func106, rfl, by kernel_rfl, by kernel_rfl, by kernel_rfl, by kernel_rfl⟩ rfl (z0b (Λ := []) (cs := []) (by kernel_rfl) (by kernel_rfl) (by kernel_rfl) trivial)
abbrev z4j : Shape := ⟨[(0, .pt 0 0), (1, .d false tI)], [.box 123 [.ro 1, .d false tI], .nr tT tK 140 177]⟩
abbrev m107 : List Nat := [0]
abbrev z6H : Shape := ⟨[(0, .pt 0 0)], [.box 123 [.ro 1, .d false tI], .nr tT tK 140 177]⟩
abbrev TF107 := z4j.den → Option z6H.den
noncomputable def F107 (F105 : z7J) : TF107 := z1c tb [(105, mkCall z5C z4S F105)] [] Tryz.f107 z4j z6H 1
theorem call107 {F105 : z7J} (h105 : z0a Tryz.prog 105 (mkCall z5C z4S F105)) : z0a Tryz.prog 107 (mkCallB z4j z6H m107 1 (F107 F105)) :=
 z0y mixed z0i (Δ := [(105, mkCall z5C z4S F105)]) ⟨.inl h105, trivial⟩ ⟨Tryz.func107, rfl, by kernel_rfl, by kernel_rfl, by kernel_rfl, by kernel_rfl, by kernel_rfl, by kernel_rfl, by kernel_rfl, by kernel_rfl, by kernel_rfl⟩ rfl (z0b (Λ := []) (cs := []) (by kernel_rfl) (by kernel_rfl) (by kernel_rfl) trivial)
abbrev psh73 : Shape := ⟨[(0, .pt 0 0), (1, .d true tA)], [.box 123 [.ro 1, .d false tI], .nr tT tK 140 177]⟩
abbrev m73 : List Nat := [0]
abbrev rs73 : Shape := ⟨[(0, .pt 0 0), (1, .d false tI)], [.box 123 [.ro 1, .d false tI], .nr tT tK 140 177]⟩
abbrev TF73 := psh73.den → Option rs73.den
noncomputable def F73 (F106 : z2M) (F107 : TF107) : TF73 := z1c tb [(106, mkCall z2w z2j F106), (107, mkCallB z4j z6H m107 1 F107)] [] Tryz.f73 psh73 rs73 1
theorem call73 {F106 : z2M} {F107 : TF107} (h106 : z0a Tryz.prog 106 (mkCall z2w z2j F106)) (h107 : z0a Tryz.prog 107 (mkCallB z4j z6H m107 1 F107)) : z0a Tryz.prog 73 (mkCallB psh73 rs73 m73 1 (F73 F106 F107)) :=
 z0y mixed z0i (Δ := [(106, mkCall z2w z2j F106), (107, mkCallB z4j z6H m107 1 F107)]) ⟨.inl h106, .inl h107, trivial⟩ ⟨Tryz.func73, rfl, by kernel_rfl, by kernel_rfl, by kernel_rfl, by kernel_rfl, by kernel_rfl, by kernel_rfl, by kernel_rfl, by kernel_rfl, by kernel_rfl⟩ rfl (z0b (Λ := []) (cs := []) (by kernel_rfl) (by kernel_rfl) (by kernel_rfl) trivial)
abbrev z5B : List SV := [.ve [.d false (.sl (.pr tT (.sl tK))), .d false tI], .d false tI]
abbrev z4R : Shape := ⟨[(0, .d false tI)], []⟩
abbrev z7I := SV.denL z5B → Option z4R.den
noncomputable def F108 (F101 : TF101) : z7I := z0t tb [(101, mkCall z8e z6K F101)] [] Tryz.f108 z5B z4R
theorem call108 {F101 : TF101} (h101 : z0a Tryz.prog 101 (mkCall z8e z6K F101)) : z0a Tryz.prog 108 (mkCall z5B z4R (F108 F101)) :=
 z0f mixed z0i (Δ := [(101, mkCall z8e z6K F101)]) ⟨.inl h101, trivial⟩ ⟨Tryz.func108, rfl, by kernel_rfl, by kernel_rfl, by kernel_rfl, by kernel_rfl⟩ rfl (z0b (Λ := []) (cs := []) (by kernel_rfl) (by kernel_rfl) (by kernel_rfl) trivial)
abbrev psh74 : Shape := ⟨[(0, .pt 0 0), (1, .d false tI)], [.box 123 [.ro 1, .d false tI], .nr tT tK 140 177]⟩
abbrev m74 : List Nat := [0]
abbrev rs74 : Shape := ⟨[(0, .pt 0 0), (1, .d false tI)], [.box 123 [.ro 1, .d false tI], .nr tT tK 140 177]⟩
abbrev TF74 := psh74.den → Option rs74.den
noncomputable def F74 (F107 : TF107) (F108 : z7I) : TF74 := z1c tb [(107, mkCallB z4j z6H m107 1 F107), (108, mkCall z5B z4R F108)] [] Tryz.f74 psh74 rs74 1
theorem call74 {F107 : TF107} {F108 : z7I} (h107 : z0a Tryz.prog 107 (mkCallB z4j z6H m107 1 F107)) (h108 : z0a Tryz.prog 108 (mkCall z5B z4R F108)) : z0a Tryz.prog 74 (mkCallB psh74 rs74 m74 1 (F74 F107 F108)) :=
 z0y mixed z0i (Δ := [(107, mkCallB z4j z6H m107 1 F107), (108, mkCall z5B z4R F108)]) ⟨.inl h107, .inl h108, trivial⟩ ⟨Tryz.func74, rfl, by kernel_rfl, by kernel_rfl, by kernel_rfl, by kernel_rfl, by kernel_rfl, by kernel_rfl, by kernel_rfl, by kernel_rfl, by kernel_rfl⟩ rfl (z0b (Λ := []) (cs := []) (by kernel_rfl) (by kernel_rfl) (by kernel_rfl) trivial)
abbrev ps116 : List SV := [.d false (.int .u8)]
abbrev rs116 : Shape := ⟨[(0, .d false .bool)], []⟩
abbrev TF116 := SV.denL ps116 → Option rs116.den
noncomputable def F116 : TF116 := z0t tb [] [] Tryz.f116 ps116 rs116
theorem call116 : z0a Tryz.prog 116 (mkCall ps116 rs116 (F116)) :=
 z0f mixed z0i (Δ := []) trivial ⟨Tryz.func116, rfl, by kernel_rfl, by kernel_rfl, by kernel_rfl, by kernel_rfl⟩ rfl (z0b (Λ := []) (cs := []) (by kernel_rfl) (by kernel_rfl) (by kernel_rfl) trivial)
abbrev ps91 : List SV := [.d false tS]
abbrev rs91 : Shape := ⟨[(0, .d false tI), (1, .d false .bool)], []⟩
abbrev TF91 := SV.denL ps91 → Option rs91.den
abbrev z4E : Shape := ⟨[(0, .d false tS), (4, .d false tI), (5, .d false tI)], []⟩
abbrev w91_5 : List Way := [(none, ⟨[(2, .d false tI), (3, .d false .bool)], []⟩), (some 0, ⟨[(4, .d false tI)], []⟩)]
noncomputable def S91_5 (F116 : TF116) : z4E.den → Option (z4E.den ⊕ denX w91_5) := z0W tb [(116, mkCall ps116 rs116 F116)] [] (upTo 43) Tryz.f91 5 z4E w91_5
noncomputable def F91 (g91_5 : z4E.den → Option (denX w91_5)) : TF91 := z0t tb [] [(5, lp z4E w91_5 g91_5)] Tryz.f91 ps91 rs91
theorem call91 {F116 : TF116} {g91_5 : z4E.den → Option (denX w91_5)} (h116 : z0a Tryz.prog 116 (mkCall ps116 rs116 F116)) (hg91_5 : Lim (S91_5 F116) g91_5) : z0a Tryz.prog 91 (mkCall ps91 rs91 (F91 g91_5)) :=
 z0f mixed z0i (Δ := []) trivial ⟨Tryz.func91, rfl, by kernel_rfl, by kernel_rfl, by kernel_rfl, by kernel_rfl⟩ rfl (z0b (cs := [.loop (z0R Tryz.f91 5)]) (by kernel_rfl) (by kernel_rfl) (by kernel_rfl) ⟨z0p mixed z0i (Δ := [(116, mkCall ps116 rs116 F116)]) ⟨.inl h116, trivial⟩ hg91_5 (z0b (Λ := []) (cs := []) (by kernel_rfl) (by kernel_rfl) (by kernel_rfl) trivial), trivial⟩)
abbrev ps53 : List SV := [.d false tS]
abbrev rs53 : Shape := ⟨[(0, .d false tI), (1, .d false .bool)], []⟩
abbrev TF53 := SV.denL ps53 → Option rs53.den
noncomputable def F53 (F91 : TF91) : TF53 := z0t tb [(91, mkCall ps91 rs91 F91)] [] Tryz.f53 ps53 rs53
theorem call53 {F91 : TF91} (h91 : z0a Tryz.prog 91 (mkCall ps91 rs91 F91)) : z0a Tryz.prog 53 (mkCall ps53 rs53 (F53 F91)) :=
 z0f mixed z0i (Δ := [(91, mkCall ps91 rs91 F91)]) ⟨.inl h91, trivial⟩ ⟨Tryz.func53, rfl, by kernel_rfl, by kernel_rfl, by kernel_rfl, by kernel_rfl⟩ rfl (z0b (Λ := []) (cs := []) (by kernel_rfl) (by kernel_rfl) (by kernel_rfl) trivial)
abbrev ps15 : List SV := [.d false tS]
abbrev rs15 : Shape := ⟨[(0, .d false tI), (1, .d false tI)], []⟩
abbrev TF15 := SV.denL ps15 → Option rs15.den
noncomputable def F15 (F53 : TF53) : TF15 := z0t tb [(53, mkCall ps53 rs53 F53)] [] Tryz.f15 ps15 rs15
theorem call15 {F53 : TF53} (h53 : z0a Tryz.prog 53 (mkCall ps53 rs53 F53)) : z0a Tryz.prog 15 (mkCall ps15 rs15 (F15 F53)) :=
 z0f mixed z0i (Δ := [(53, mkCall ps53 rs53 F53)]) ⟨.inl h53, trivial⟩ ⟨Tryz.func15, rfl, by kernel_rfl, by kernel_rfl, by kernel_rfl, by kernel_rfl⟩ rfl (z0b (Λ := []) (cs := []) (by kernel_rfl) (by kernel_rfl) (by kernel_rfl) trivial)
abbrev z8c : List SV := [.d false tS]
abbrev z6G : Shape := ⟨[(0, .d false tI), (1, .d false tI)], []⟩
abbrev TF109 := SV.denL z8c → Option z6G.den
abbrev z3A : Shape := ⟨[(4, .d false tI), (6, .d false tI)], []⟩
abbrev z6y : List Way := [(some 0, ⟨[(6, .d false tI)], []⟩)]
noncomputable def S109_5 : z3A.den → Option (z3A.den ⊕ denX z6y) := z0W tb [] [] (upTo 21) Tryz.f109 5 z3A z6y
noncomputable def F109 (F15 : TF15) (g109_5 : z3A.den → Option (denX z6y)) : TF109 := z0t tb [(15, mkCall ps15 rs15 F15)] [(5, lp z3A z6y g109_5)] Tryz.f109 z8c z6G
theorem call109 {F15 : TF15} {g109_5 : z3A.den → Option (denX z6y)} (h15 : z0a Tryz.prog 15 (mkCall ps15 rs15 F15)) (hg109_5 : Lim (S109_5) g109_5) : z0a Tryz.prog 109 (mkCall z8c z6G (F109 F15 g109_5)) :=
 z0f mixed z0i (Δ := [(15, mkCall ps15 rs15 F15)]) ⟨.inl h15, trivial⟩ ⟨Tryz.func109, rfl, by kernel_rfl, by kernel_rfl, by kernel_rfl, by kernel_rfl⟩ rfl (z0b (cs := [.loop (z0R Tryz.f109 5)]) (by kernel_rfl) (by kernel_rfl) (by kernel_rfl) ⟨z0p mixed z0i (Δ := []) trivial hg109_5 (z0b (Λ := []) (cs := []) (by kernel_rfl) (by kernel_rfl) (by kernel_rfl) trivial), trivial⟩)
abbrev z3l : List SV := [.ve [.d false (.sl (.pr tT (.sl tK))), .d false tI], .d true tA, .d false tI, .d false tI, .d false .bool]
abbrev z2L : Shape := ⟨[(0, .d false tI)], []⟩
abbrev z3K := SV.denL z3l → Option z2L.den
noncomputable def F110 (F106 : z2M) : z3K := z0t tb [(106, mkCall z2w z2j F106)] [] Tryz.f110 z3l z2L
theorem call110 {F106 : z2M} (h106 : z0a Tryz.prog 106 (mkCall z2w z2j F106)) : z0a Tryz.prog 110 (mkCall z3l z2L (F110 F106)) :=
 z0f mixed z0i (Δ := [(106, mkCall z2w z2j F106)]) ⟨.inl h106, trivial⟩ ⟨Tryz.func110, rfl, by kernel_rfl, by kernel_rfl, by kernel_rfl, by kernel_rfl⟩ rfl (z0b (Λ := []) (cs := []) (by kernel_rfl) (by kernel_rfl) (by kernel_rfl) trivial)
abbrev ps36 : List SV := [.d false tI]
abbrev rs36 : Shape := ⟨[(0, .d false (.int .u64))], []⟩
abbrev TF36 := SV.denL ps36 → Option rs36.den
noncomputable def F36 : TF36 := z0t tb [] [] Tryz.f36 ps36 rs36
theorem call36 : z0a Tryz.prog 36 (mkCall ps36 rs36 (F36)) :=
 z0f mixed z0i (Δ := []) trivial ⟨Tryz.func36, rfl, by kernel_rfl, by kernel_rfl, by kernel_rfl, by kernel_rfl⟩ rfl (z0b (Λ := []) (cs := []) (by kernel_rfl) (by kernel_rfl) (by kernel_rfl) trivial)
abbrev ps37 : List SV := [.d false tS]
abbrev rs37 : Shape := ⟨[(0, .d false tI)], []⟩
abbrev TF37 := SV.denL ps37 → Option rs37.den
noncomputable def F37 (F53 : TF53) : TF37 := z0t tb [(53, mkCall ps53 rs53 F53)] [] Tryz.f37 ps37 rs37
theorem call37 {F53 : TF53} (h53 : z0a Tryz.prog 53 (mkCall ps53 rs53 F53)) : z0a Tryz.prog 37 (mkCall ps37 rs37 (F37 F53)) :=
 z0f mixed z0i (Δ := [(53, mkCall ps53 rs53 F53)]) ⟨.inl h53, trivial⟩ ⟨Tryz.func37, rfl, by kernel_rfl, by kernel_rfl, by kernel_rfl, by kernel_rfl⟩ rfl (z0b (Λ := []) (cs := []) (by kernel_rfl) (by kernel_rfl) (by kernel_rfl) trivial)
abbrev ps111 : List SV := [.d false tS, .d false (.sl tK)]
abbrev rs111 : Shape := ⟨[(0, .d true (.pr tI (.pr (.int .u64) tA)))], []⟩
abbrev TF111 := SV.denL ps111 → Option rs111.den
abbrev z3h : Shape := ⟨[(1, .d false (.sl tK)), (4, .pt 0 0), (5, .d false .bool), (6, .d false .bool), (7, .d false tI)], [.box 30 [.d false tI, .d false (.int .u64), .d false tI, .d false tI]]⟩
abbrev z5X : List Way := [(some 0, ⟨[(1, .d false (.sl tK)), (4, .pt 0 0), (5, .d false .bool), (6, .d false .bool)], [.box 30 [.d false tI, .d false (.int .u64), .d false tI, .d false tI]]⟩)]
abbrev z2i : Shape := ⟨[(0, .d false tS), (1, .d false (.sl tK)), (4, .pt 0 0), (8, .d false (.int .u64)), (9, .d false tI)], [.box 30 [.d false tI, .d false (.int .u64), .d false tI, .d false tI]]⟩
abbrev z3v : List Way := [(none, ⟨[(4, .pt 0 0)], [.box 30 [.d false tI, .d false (.int .u64), .d false tI, .d false tI]]⟩), (some 2, ⟨[(0, .d false tS), (4, .pt 0 0), (8, .d false (.int .u64))], [.box 30 [.d false tI, .d false (.int .u64), .d false tI, .d false tI]]⟩)]
noncomputable def S111_4 : z3h.den → Option (z3h.den ⊕ denX z5X) := z0W tb [] [] (upTo 108) Tryz.f111 4 z3h z5X
noncomputable def S111_15 (F103 : z2Z) : z2i.den → Option (z2i.den ⊕ denX z3v) := z0W tb [(103, mkCall z2B z2u F103)] [] (upTo 108) Tryz.f111 15 z2i z3v
noncomputable def F111 (F36 : TF36) (F37 : TF37) (F103 : z2Z) (g111_4 : z3h.den → Option (denX z5X)) (g111_15 : z2i.den → Option (denX z3v)) : TF111 := z0t tb [(36, mkCall ps36 rs36 F36), (37, mkCall ps37 rs37 F37), (103, mkCall z2B z2u F103)] [(4, lp z3h z5X g111_4), (15, lp z2i z3v g111_15)] Tryz.f111 ps111 rs111
theorem call111 {F103 : z2Z} {F36 : TF36} {F37 : TF37} {g111_4 : z3h.den → Option (denX z5X)} {g111_15 : z2i.den → Option (denX z3v)} (h103 : z0a Tryz.prog 103 (mkCall z2B z2u F103)) (h36 : z0a Tryz.prog 36 (mkCall ps36 rs36 F36)) (h37 : z0a Tryz.prog 37 (mkCall ps37 rs37 F37)) (hg111_4 : Lim (S111_4) g111_4) (hg111_15 : Lim (S111_15 F103) g111_15) : z0a Tryz.prog 111 (mkCall ps111 rs111 (F111 F36 F37 F103 g111_4 g111_15)) :=
 z0f mixed z0i (Δ := [(36, mkCall ps36 rs36 F36), (37, mkCall ps37 rs37 F37), (103, mkCall z2B z2u F103)]) ⟨.inl h36, .inl h37, .inl h103, trivial⟩ ⟨Tryz.func111, rfl, by kernel_rfl, by kernel_rfl, by kernel_rfl, by kernel_rfl⟩ rfl (z0b (cs := [.loop (z0R Tryz.f111 4), .loop (z0R Tryz.f111 15)]) (by kernel_rfl) (by kernel_rfl) (by kernel_rfl) ⟨z0p mixed z0i (Δ := []) trivial hg111_4 (z0b (Λ := []) (cs := []) (by kernel_rfl) (by kernel_rfl) (by kernel_rfl) trivial), z0p mixed z0i (Δ := [(103, mkCall z2B z2u F103)]) ⟨.inl h103, trivial⟩ hg111_15 (z0b (Λ := []) (cs := []) (by kernel_rfl) (by kernel_rfl) (by kernel_rfl) trivial), trivial⟩)
abbrev ps75 : List SV := [.ve [.d false (.sl (.pr tT (.sl tK))), .d false tI], .d false tS, .d true tA]
abbrev rs75 : Shape := ⟨[(0, .d true (.pr tI (.pr (.int .u64) tA))), (1, .d false tI)], []⟩
abbrev TF75 := SV.denL ps75 → Option rs75.den
noncomputable def F75 (F15 : TF15) (F103 : z2Z) (F109 : TF109) (F110 : z3K) (F111 : TF111) : TF75 := z0t tb [(15, mkCall ps15 rs15 F15), (103, mkCall z2B z2u F103), (109, mkCall z8c z6G F109), (110, mkCall z3l z2L F110), (111, mkCall ps111 rs111 F111)] [] Tryz.f75 ps75 rs75
theorem call75 {F103 : z2Z} {F109 : TF109} {F110 : z3K} {F111 : TF111} {F15 : TF15} (h103 : z0a Tryz.prog 103 (mkCall z2B z2u F103)) (h109 : z0a Tryz.prog 109 (mkCall z8c z6G F109)) (h110 : z0a Tryz.prog 110 (mkCall z3l z2L F110)) (h111 : z0a Tryz.prog 111 (mkCall ps111 rs111 F111)) (h15 : z0a Tryz.prog 15 (mkCall ps15 rs15 F15)) : z0a Tryz.prog 75 (mkCall ps75 rs75 (F75 F15 F103 F109 F110 F111)) :=
 z0f mixed z0i (Δ := [(15, mkCall ps15 rs15 F15), (103, mkCall z2B z2u F103), (109, mkCall z8c z6G F109), (110, mkCall z3l z2L F110), (111, mkCall ps111 rs111 F111)]) ⟨.inl h15, .inl h103, .inl h109, .inl h110, .inl h111, trivial⟩ ⟨Tryz.func75, rfl, by kernel_rfl, by kernel_rfl, by kernel_rfl, by kernel_rfl⟩ rfl (z0b (Λ := []) (cs := []) (by kernel_rfl) (by kernel_rfl) (by kernel_rfl) trivial)
abbrev z8b : List SV := [.d false tS, .d true (.pr tI (.pr (.int .u64) tA))]
abbrev z6F : Shape := ⟨[(0, .rf 0)], [.row tK 177]⟩
abbrev TF112 := SV.denL z8b → Option z6F.den
abbrev z3g : Shape := ⟨[(0, .d false tS), (3, .pt 0 0), (5, .d false tI), (7, .rf 1), (8, .d false tI)], [.box 30 [.d false tI, .d false (.int .u64), .d false tI, .d false tI], .row tK 177]⟩
abbrev z5W : List Way := [(some 0, ⟨[(7, .rf 0)], [.row tK 177]⟩)]
noncomputable def S112_4 (F36 : TF36) (F37 : TF37) : z3g.den → Option (z3g.den ⊕ denX z5W) := z0W tb [(36, mkCall ps36 rs36 F36), (37, mkCall ps37 rs37 F37)] [] (upTo 92) Tryz.f112 4 z3g z5W
noncomputable def F112 (F15 : TF15) (g112_4 : z3g.den → Option (denX z5W)) : TF112 := z0t tb [(15, mkCall ps15 rs15 F15)] [(4, lp z3g z5W g112_4)] Tryz.f112 z8b z6F
theorem call112 {F15 : TF15} {F36 : TF36} {F37 : TF37} {g112_4 : z3g.den → Option (denX z5W)} (h15 : z0a Tryz.prog 15 (mkCall ps15 rs15 F15)) (h36 : z0a Tryz.prog 36 (mkCall ps36 rs36 F36)) (h37 : z0a Tryz.prog 37 (mkCall ps37 rs37 F37)) (hg112_4 : Lim (S112_4 F36 F37) g112_4) : z0a Tryz.prog 112 (mkCall z8b z6F (F112 F15 g112_4)) :=
 z0f mixed z0i (Δ := [(15, mkCall ps15 rs15 F15)]) ⟨.inl h15, trivial⟩ ⟨Tryz.func112, rfl, by kernel_rfl, by kernel_rfl, by kernel_rfl, by kernel_rfl⟩ rfl (z0b (cs := [.loop (z0R Tryz.f112 4)]) (by kernel_rfl) (by kernel_rfl) (by kernel_rfl) ⟨z0p mixed z0i (Δ := [(36, mkCall ps36 rs36 F36), (37, mkCall ps37 rs37 F37)]) ⟨.inl h36, .inl h37, trivial⟩ hg112_4 (z0b (Λ := []) (cs := []) (by kernel_rfl) (by kernel_rfl) (by kernel_rfl) trivial), trivial⟩)
abbrev psh76 : Shape := ⟨[(0, .pt 0 0), (1, .d false tS), (2, .d true tA), (3, .d true (.pr tI (.pr (.int .u64) tA)))], [.box 123 [.ro 1, .d false tI], .nr tT tK 140 177]⟩
abbrev m76 : List Nat := [0]
abbrev rs76 : Shape := ⟨[(0, .pt 0 0), (1, .d false tI)], [.box 123 [.ro 1, .d false tI], .nr tT tK 140 177]⟩
abbrev TF76 := psh76.den → Option rs76.den
noncomputable def F76 (F15 : TF15) (F106 : z2M) (F109 : TF109) (F110 : z3K) (F112 : TF112) : TF76 := z1c tb [(15, mkCall ps15 rs15 F15), (106, mkCall z2w z2j F106), (109, mkCall z8c z6G F109), (110, mkCall z3l z2L F110), (112, mkCall z8b z6F F112)] [] Tryz.f76 psh76 rs76 1
theorem call76 {F106 : z2M} {F109 : TF109} {F110 : z3K} {F112 : TF112} {F15 : TF15} (h106 : z0a Tryz.prog 106 (mkCall z2w z2j F106)) (h109 : z0a Tryz.prog 109 (mkCall z8c z6G F109)) (h110 : z0a Tryz.prog 110 (mkCall z3l z2L F110)) (h112 : z0a Tryz.prog 112 (mkCall z8b z6F F112)) (h15 : z0a Tryz.prog 15 (mkCall ps15 rs15 F15)) : z0a Tryz.prog 76 (mkCallB psh76 rs76 m76 1 (F76 F15 F106 F109 F110 F112)) :=
 z0y mixed z0i (Δ := [(15, mkCall ps15 rs15 F15), (106, mkCall z2w z2j F106), (109, mkCall z8c z6G F109), (110, mkCall z3l z2L F110), (112, mkCall z8b z6F F112)]) ⟨.inl h15, .inl h106, .inl h109, .inl h110, .inl h112, trivial⟩ ⟨Tryz.func76, rfl, by kernel_rfl, by kernel_rfl, by kernel_rfl, by kernel_rfl, by kernel_rfl, by kernel_rfl, by kernel_rfl, by kernel_rfl, by kernel_rfl⟩ rfl (z0b (Λ := []) (cs := []) (by kernel_rfl) (by kernel_rfl) (by kernel_rfl) trivial)
abbrev psh77 : Shape := ⟨[(0, .pt 0 0), (1, .d true tA), (2, .d true tA), (3, .d false tI)], [.box 123 [.ro 1, .d false tI], .nr tT tK 140 177]⟩
abbrev m77 : List Nat := [0]
abbrev rs77 : Shape := ⟨[(0, .pt 0 0), (1, .d false tI)], [.box 123 [.ro 1, .d false tI], .nr tT tK 140 177]⟩
abbrev TF77 := psh77.den → Option rs77.den
noncomputable def F77 (F110 : z3K) : TF77 := z1c tb [(110, mkCall z3l z2L F110)] [] Tryz.f77 psh77 rs77 1
theorem call77 {F110 : z3K} (h110 : z0a Tryz.prog 110 (mkCall z3l z2L F110)) : z0a Tryz.prog 77 (mkCallB psh77 rs77 m77 1 (F77 F110)) :=
 z0y mixed z0i (Δ := [(110, mkCall z3l z2L F110)]) ⟨.inl h110, trivial⟩ ⟨Tryz.func77, rfl, by kernel_rfl, by kernel_rfl, by kernel_rfl, by kernel_rfl, by kernel_rfl, by kernel_rfl, by kernel_rfl, by kernel_rfl, by kernel_rfl⟩ rfl (z0b (Λ := []) (cs := []) (by kernel_rfl) (by kernel_rfl) (by kernel_rfl) trivial)
abbrev psh78 : Shape := ⟨[(0, .pt 0 0), (1, .d true tA), (2, .d false tI)], [.box 123 [.ro 1, .d false tI], .nr tT tK 140 177]⟩
abbrev m78 : List Nat := [0]
abbrev rs78 : Shape := ⟨[(0, .pt 0 0), (1, .d false tI)], [.box 123 [.ro 1, .d false tI], .nr tT tK 140 177]⟩
abbrev TF78 := psh78.den → Option rs78.den
abbrev z4H : Shape := ⟨[(0, .pt 0 0), (2, .d false tI), (4, .pt 1 0), (8, .d false tI)], [.box 123 [.ro 2, .d false tI], .box 28 [.d false tI, .d false tI], .nr tT tK 140 177]⟩
abbrev w78_5 : List Way := [(some 0, ⟨[(0, .pt 0 0)], [.box 123 [.ro 1, .d false tI], .nr tT tK 140 177]⟩)]
noncomputable def S78_5 : z4H.den → Option (z4H.den ⊕ denX w78_5) := z0W tb [] [] (z0L (upTo 36) (z0v 0 1)) Tryz.f78 5 z4H w78_5
noncomputable def F78 (F110 : z3K) (g78_5 : z4H.den → Option (denX w78_5)) : TF78 := z1c tb [(110, mkCall z3l z2L F110)] [(5, lp z4H w78_5 g78_5)] Tryz.f78 psh78 rs78 1
theorem call78 {F110 : z3K} {g78_5 : z4H.den → Option (denX w78_5)} (h110 : z0a Tryz.prog 110 (mkCall z3l z2L F110)) (hg78_5 : Lim (S78_5) g78_5) : z0a Tryz.prog 78 (mkCallB psh78 rs78 m78 1 (F78 F110 g78_5)) :=
 z0y mixed z0i (Δ := [(110, mkCall z3l z2L F110)]) ⟨.inl h110, trivial⟩ ⟨Tryz.func78, rfl, by kernel_rfl, by kernel_rfl, by kernel_rfl, by kernel_rfl, by kernel_rfl, by kernel_rfl, by kernel_rfl, by kernel_rfl, by kernel_rfl⟩ rfl (z0b (cs := [.loop (z0R Tryz.f78 5)]) (by kernel_rfl) (by kernel_rfl) (by kernel_rfl) ⟨z0p mixed z0i (Δ := []) trivial hg78_5 (z0b (Λ := []) (cs := []) (by kernel_rfl) (by kernel_rfl) (by kernel_rfl) trivial), trivial⟩)
abbrev ps79 : List SV := [.ve [.d false (.sl (.pr tT (.sl tK))), .d false tI], .d true tA, .d false tI]
abbrev rs79 : Shape := ⟨[(0, .rf 0), (1, .d false tI)], [.row (.int .u8) 5]⟩
abbrev TF79 := SV.denL ps79 → Option rs79.den
abbrev z4G : Shape := ⟨[(0, .ve [.d false (.sl (.pr tT (.sl tK))), .d false tI]), (2, .d false tI), (4, .pt 0 0), (9, .rf 1), (10, .d false tI)], [.box 28 [.d false tI, .d false tI], .row (.int .u8) 5]⟩
abbrev w79_8 : List Way := [(none, ⟨[(6, .nl), (7, .d false tI)], []⟩), (some 0, ⟨[(9, .rf 0)], [.row (.int .u8) 5]⟩)]
noncomputable def S79_8 : z4G.den → Option (z4G.den ⊕ denX w79_8) := z0W tb [] [] (upTo 50) Tryz.f79 8 z4G w79_8
noncomputable def F79 (F110 : z3K) (g79_8 : z4G.den → Option (denX w79_8)) : TF79 := z0t tb [(110, mkCall z3l z2L F110)] [(8, lp z4G w79_8 g79_8)] Tryz.f79 ps79 rs79
theorem call79 {F110 : z3K} {g79_8 : z4G.den → Option (denX w79_8)} (h110 : z0a Tryz.prog 110 (mkCall z3l z2L F110)) (hg79_8 : Lim (S79_8) g79_8) : z0a Tryz.prog 79 (mkCall ps79 rs79 (F79 F110 g79_8)) :=
 z0f mixed z0i (Δ := [(110, mkCall z3l z2L F110)]) ⟨.inl h110, trivial⟩ ⟨Tryz.func79, rfl, by kernel_rfl, by kernel_rfl, by kernel_rfl, by kernel_rfl⟩ rfl (z0b (cs := [.loop (z0R Tryz.f79 8)]) (by kernel_rfl) (by kernel_rfl) (by kernel_rfl) ⟨z0p mixed z0i (Δ := []) trivial hg79_8 (z0b (Λ := []) (cs := []) (by kernel_rfl) (by kernel_rfl) (by kernel_rfl) trivial), trivial⟩)
abbrev psh80 : Shape := ⟨[(0, .pt 0 0), (1, .d false tI), (2, .d false tI), (3, .d false (.sl (.int .u8))), (4, .d false (.sl .bool))], [.box 123 [.ro 1, .d false tI], .nr tT tK 140 177]⟩
abbrev m80 : List Nat := [0]
abbrev rs80 : Shape := ⟨[(0, .pt 0 0), (1, .d false tI)], [.box 123 [.ro 1, .d false tI], .nr tT tK 140 177]⟩
abbrev TF80 := psh80.den → Option rs80.den
abbrev z3e : Shape := ⟨[(0, .pt 0 0), (2, .d false tI), (3, .d false (.sl (.int .u8))), (4, .d false (.sl .bool)), (12, .fs 1 5), (13, .d false tI)], [.box 123 [.ro 1, .d false tI], .nr tT tK 140 177]⟩
abbrev z5T : List Way := [(some 0, ⟨[(0, .pt 0 0)], [.box 123 [.ro 1, .d false tI], .nr tT tK 140 177]⟩)]
noncomputable def S80_10 : z3e.den → Option (z3e.den ⊕ denX z5T) := z0W tb [] [] (z0L (upTo 83) (z0v 0 1)) Tryz.f80 10 z3e z5T
noncomputable def F80 (F108 : z7I) (g80_10 : z3e.den → Option (denX z5T)) : TF80 := z1c tb [(108, mkCall z5B z4R F108)] [(10, lp z3e z5T g80_10)] Tryz.f80 psh80 rs80 1
theorem call80 {F108 : z7I} {g80_10 : z3e.den → Option (denX z5T)} (h108 : z0a Tryz.prog 108 (mkCall z5B z4R F108)) (hg80_10 : Lim (S80_10) g80_10) : z0a Tryz.prog 80 (mkCallB psh80 rs80 m80 1 (F80 F108 g80_10)) :=
 z0y mixed z0i (Δ := [(108, mkCall z5B z4R F108)]) ⟨.inl h108, trivial⟩ ⟨Tryz.func80, rfl, by kernel_rfl, by kernel_rfl, by kernel_rfl, by kernel_rfl, by kernel_rfl, by kernel_rfl, by kernel_rfl, by kernel_rfl, by kernel_rfl⟩ rfl (z0b (cs := [.loop (z0R Tryz.f80 10)]) (by kernel_rfl) (by kernel_rfl) (by kernel_rfl) ⟨z0p mixed z0i (Δ := []) trivial hg80_10 (z0b (Λ := []) (cs := []) (by kernel_rfl) (by kernel_rfl) (by kernel_rfl) trivial), trivial⟩)
abbrev psh81 : Shape := ⟨[(0, .pt 0 0), (1, .d false tI), (2, .d false tI), (3, .d true tA)], [.box 123 [.ro 1, .d false tI], .nr tT tK 140 177]⟩
abbrev m81 : List Nat := [0]
abbrev rs81 : Shape := ⟨[(0, .pt 0 0), (1, .d false tI)], [.box 123 [.ro 1, .d false tI], .nr tT tK 140 177]⟩
abbrev TF81 := psh81.den → Option rs81.den
noncomputable def F81 (F106 : z2M) (F108 : z7I) (F112 : TF112) : TF81 := z1c tb [(106, mkCall z2w z2j F106), (108, mkCall z5B z4R F108), (112, mkCall z8b z6F F112)] [] Tryz.f81 psh81 rs81 1
theorem call81 {F106 : z2M} {F108 : z7I} {F112 : TF112} (h106 : z0a Tryz.prog 106 (mkCall z2w z2j F106)) (h108 : z0a Tryz.prog 108 (mkCall z5B z4R F108)) (h112 : z0a Tryz.prog 112 (mkCall z8b z6F F112)) : z0a Tryz.prog 81 (mkCallB psh81 rs81 m81 1 (F81 F106 F108 F112)) :=
 z0y mixed z0i (Δ := [(106, mkCall z2w z2j F106), (108, mkCall z5B z4R F108), (112, mkCall z8b z6F F112)]) ⟨.inl h106, .inl h108, .inl h112, trivial⟩ ⟨Tryz.func81, rfl, by kernel_rfl, by kernel_rfl, by kernel_rfl, by kernel_rfl, by kernel_rfl, by kernel_rfl, by kernel_rfl, by kernel_rfl, by kernel_rfl⟩ rfl (z0b (Λ := []) (cs := []) (by kernel_rfl) (by kernel_rfl) (by kernel_rfl) trivial)
abbrev ps113 : List SV := [.ve [.d false (.sl (.pr tT (.sl tK))), .d false tI], .d true tA]
abbrev rs113 : Shape := ⟨[(0, .d false .bool)], []⟩
abbrev TF113 := SV.denL ps113 → Option rs113.den
noncomputable def F113 : TF113 := z0t tb [] [] Tryz.f113 ps113 rs113
theorem call113 : z0a Tryz.prog 113 (mkCall ps113 rs113 (F113)) :=
 z0f mixed z0i (Δ := []) trivial ⟨Tryz.func113, rfl, by kernel_rfl, by kernel_rfl, by kernel_rfl, by kernel_rfl⟩ rfl (z0b (Λ := []) (cs := []) (by kernel_rfl) (by kernel_rfl) (by kernel_rfl) trivial)
abbrev ps82 : List SV := [.ve [.d false (.sl (.pr tT (.sl tK))), .d false tI], .d true tA, .d true tA]
abbrev rs82 : Shape := ⟨[(0, .d false .bool), (1, .d false tI)], []⟩
abbrev TF82 := SV.denL ps82 → Option rs82.den
noncomputable def F82 (F106 : z2M) (F113 : TF113) : TF82 := z0t tb [(106, mkCall z2w z2j F106), (113, mkCall ps113 rs113 F113)] [] Tryz.f82 ps82 rs82
theorem call82 {F106 : z2M} {F113 : TF113} (h106 : z0a Tryz.prog 106 (mkCall z2w z2j F106)) (h113 : z0a Tryz.prog 113 (mkCall ps113 rs113 F113)) : z0a Tryz.prog 82 (mkCall ps82 rs82 (F82 F106 F113)) :=
 z0f mixed z0i (Δ := [(106, mkCall z2w z2j F106), (113, mkCall ps113 rs113 F113)]) ⟨.inl h106, .inl h113, trivial⟩ ⟨Tryz.func82, rfl, by kernel_rfl, by kernel_rfl, by kernel_rfl, by kernel_rfl⟩ rfl (z0b (Λ := []) (cs := []) (by kernel_rfl) (by kernel_rfl) (by kernel_rfl) trivial)
abbrev ps83 : List SV := [.ve [.d false (.sl (.pr tT (.sl tK))), .d false tI], .d true tA, .d false tI]
abbrev rs83 : Shape := ⟨[(0, .d true tA), (1, .d false tI)], []⟩
abbrev TF83 := SV.denL ps83 → Option rs83.den
noncomputable def F83 (F103 : z2Z) (F106 : z2M) : TF83 := z0t tb [(103, mkCall z2B z2u F103), (106, mkCall z2w z2j F106)] [] Tryz.f83 ps83 rs83
theorem call83 {F103 : z2Z} {F106 : z2M} (h103 : z0a Tryz.prog 103 (mkCall z2B z2u F103)) (h106 : z0a Tryz.prog 106 (mkCall z2w z2j F106)) : z0a Tryz.prog 83 (mkCall ps83 rs83 (F83 F103 F106)) :=
 z0f mixed z0i (Δ := [(103, mkCall z2B z2u F103), (106, mkCall z2w z2j F106)]) ⟨.inl h103, .inl h106, trivial⟩ ⟨Tryz.func83, rfl, by kernel_rfl, by kernel_rfl, by kernel_rfl, by kernel_rfl⟩ rfl (z0b (Λ := []) (cs := []) (by kernel_rfl) (by kernel_rfl) (by kernel_rfl) trivial)
abbrev psh31 : Shape := ⟨[(0, .pt 0 0), (1, .d true (.pr tI (.pr tS (.pr tA (.pr tA (.pr tI (.pr tI (.pr .bool (.pr (.int .u64) (.pr (.pr tI (.pr (.int .u64) tA)) (.pr (.sl (.int .u8)) (.sl .bool))))))))))))], [.box 123 [.ro 1, .d false tI], .nr tT tK 140 177]⟩
abbrev m31 : List Nat := [0]
abbrev rs31 : Shape := ⟨[(0, .pt 0 0), (1, .d true (.pr tA (.pr (.pr tI (.pr (.int .u64) tA)) (.pr .bool (.pr tI (.sl (.int .u8)))))))], [.box 123 [.ro 1, .d false tI], .nr tT tK 140 177]⟩
abbrev TF31 := psh31.den → Option rs31.den
noncomputable def F31 (F71 : TF71) (F72 : TF72) (F73 : TF73) (F74 : TF74) (F75 : TF75) (F76 : TF76) (F77 : TF77) (F78 : TF78) (F79 : TF79) (F80 : TF80) (F81 : TF81) (F82 : TF82) (F83 : TF83) : TF31 := z1c tb [(71, mkCallB psh71 rs71 m71 1 F71), (72, mkCallB psh72 rs72 m72 1 F72), (73, mkCallB psh73 rs73 m73 1 F73), (74, mkCallB psh74 rs74 m74 1 F74), (75, mkCall ps75 rs75 F75), (76, mkCallB psh76 rs76 m76 1 F76), (77, mkCallB psh77 rs77 m77 1 F77), (78, mkCallB psh78 rs78 m78 1 F78), (79, mkCall ps79 rs79 F79), (80, mkCallB psh80 rs80 m80 1 F80), (81, mkCallB psh81 rs81 m81 1 F81), (82, mkCall ps82 rs82 F82), (83, mkCall ps83 rs83 F83)] [] Tryz.f31 psh31 rs31 1
theorem call31 {F71 : TF71} {F72 : TF72} {F73 : TF73} {F74 : TF74} {F75 : TF75} {F76 : TF76} {F77 : TF77} {F78 : TF78} {F79 : TF79} {F80 : TF80} {F81 : TF81} {F82 : TF82} {F83 : TF83} (h71 : z0a Tryz.prog 71 (mkCallB psh71 rs71 m71 1 F71)) (h72 : z0a Tryz.prog 72 (mkCallB psh72 rs72 m72 1 F72)) (h73 : z0a Tryz.prog 73 (mkCallB psh73 rs73 m73 1 F73)) (h74 : z0a Tryz.prog 74 (mkCallB psh74 rs74 m74 1 F74)) (h75 : z0a Tryz.prog 75 (mkCall ps75 rs75 F75)) (h76 : z0a Tryz.prog 76 (mkCallB psh76 rs76 m76 1 F76)) (h77 : z0a Tryz.prog 77 (mkCallB psh77 rs77 m77 1 F77)) (h78 : z0a Tryz.prog 78 (mkCallB psh78 rs78 m78 1 F78)) (h79 : z0a Tryz.prog 79 (mkCall ps79 rs79 F79)) (h80 : z0a Tryz.prog 80 (mkCallB psh80 rs80 m80 1 F80)) (h81 : z0a Tryz.prog 81 (mkCallB psh81 rs81 m81 1 F81)) (h82 : z0a Tryz.prog 82 (mkCall ps82 rs82 F82)) (h83 : z0a Tryz.prog 83 (mkCall ps83 rs83 F83)) : z0a Tryz.prog 31 (mkCallB psh31 rs31 m31 1 (F31 F71 F72 F73 F74 F75 F76 F77 F78 F79 F80 F81 F82 F83)) :=
 z0y mixed z0i (Δ := [(71, mkCallB psh71 rs71 m71 1 F71), (72, mkCallB psh72 rs72 m72 1 F72), (73, mkCallB psh73 rs73 m73 1 F73), (74, mkCallB psh74 rs74 m74 1 F74), (75, mkCall ps75 rs75 F75), (76, mkCallB psh76 rs76 m76 1 F76), (77, mkCallB psh77 rs77 m77 1 F77), (78, mkCallB psh78 rs78 m78 1 F78), (79, mkCall ps79 rs79 F79), (80, mkCallB psh80 rs80 m80 1 F80), (81, mkCallB psh81 rs81 m81 1 F81), (82, mkCall ps82 rs82 F82), (83, mkCall ps83 rs83 F83)]) ⟨.inl h71, .inl h72, .inl h73, .inl h74, .inl h75, .inl h76, .inl h77, .inl h78, .inl h79, .inl h80, .inl h81, .inl h82, .inl h83, trivial⟩ ⟨Tryz.func31, rfl, by kernel_rfl, by kernel_rfl, by kernel_rfl, by kernel_rfl, by kernel_rfl, by kernel_rfl, by kernel_rfl, by kernel_rfl, by kernel_rfl⟩ rfl (z0b (Λ := []) (cs := []) (by kernel_rfl) (by kernel_rfl) (by kernel_rfl) trivial)
abbrev ps32 : List SV := [.d false (.sl tI), .d false (.sl tI)]
abbrev rs32 : Shape := ⟨[(0, .d false .bool)], []⟩
abbrev TF32 := SV.denL ps32 → Option rs32.den
abbrev z4M : Shape := ⟨[(0, .d false (.sl tI)), (1, .d false (.sl tI)), (5, .d false tI)], []⟩
abbrev w32_4 : List Way := [(none, ⟨[(4, .d false .bool)], []⟩), (some 0, ⟨[], []⟩)]
noncomputable def S32_4 : z4M.den → Option (z4M.den ⊕ denX w32_4) := z0W tb [] [] (upTo 26) Tryz.f32 4 z4M w32_4
noncomputable def F32 (g32_4 : z4M.den → Option (denX w32_4)) : TF32 := z0t tb [] [(4, lp z4M w32_4 g32_4)] Tryz.f32 ps32 rs32
theorem call32 {g32_4 : z4M.den → Option (denX w32_4)} (hg32_4 : Lim (S32_4) g32_4) : z0a Tryz.prog 32 (mkCall ps32 rs32 (F32 g32_4)) :=
 z0f mixed z0i (Δ := []) trivial ⟨Tryz.func32, rfl, by kernel_rfl, by kernel_rfl, by kernel_rfl, by kernel_rfl⟩ rfl (z0b (cs := [.loop (z0R Tryz.f32 4)]) (by kernel_rfl) (by kernel_rfl) (by kernel_rfl) ⟨z0p mixed z0i (Δ := []) trivial hg32_4 (z0b (Λ := []) (cs := []) (by kernel_rfl) (by kernel_rfl) (by kernel_rfl) trivial), trivial⟩)
abbrev ps33 : List SV := [.ve [.d false (.sl (.pr tT (.sl tC))), .d false tI], .d false tI]
abbrev rs33 : Shape := ⟨[(0, .rf 0)], [.row tI 3]⟩
abbrev TF33 := SV.denL ps33 → Option rs33.den
abbrev z4L : Shape := ⟨[(1, .d false tI), (5, .rf 0), (11, .d false (.sl (.pr tT (.sl tC)))), (12, .d false tI), (13, .d false tI)], [.row tI 3]⟩
abbrev w33_3 : List Way := [(some 0, ⟨[(5, .rf 0)], [.row tI 3]⟩)]
noncomputable def S33_3 : z4L.den → Option (z4L.den ⊕ denX w33_3) := z0W tb [] [] (upTo 34) Tryz.f33 3 z4L w33_3
noncomputable def F33 (g33_3 : z4L.den → Option (denX w33_3)) : TF33 := z0t tb [] [(3, lp z4L w33_3 g33_3)] Tryz.f33 ps33 rs33
theorem call33 {g33_3 : z4L.den → Option (denX w33_3)} (hg33_3 : Lim (S33_3) g33_3) : z0a Tryz.prog 33 (mkCall ps33 rs33 (F33 g33_3)) :=
 z0f mixed z0i (Δ := []) trivial ⟨Tryz.func33, rfl, by kernel_rfl, by kernel_rfl, by kernel_rfl, by kernel_rfl⟩ rfl (z0b (cs := [.loop (z0R Tryz.f33 3)]) (by kernel_rfl) (by kernel_rfl) (by kernel_rfl) ⟨z0p mixed z0i (Δ := []) trivial hg33_3 (z0b (Λ := []) (cs := []) (by kernel_rfl) (by kernel_rfl) (by kernel_rfl) trivial), trivial⟩)
abbrev ps34 : List SV := [.ve [.d false (.sl (.pr tT (.sl tK))), .d false tI], .d false tI]
abbrev rs34 : Shape := ⟨[(0, .rf 0)], [.row tI 3]⟩
abbrev TF34 := SV.denL ps34 → Option rs34.den
abbrev z4K : Shape := ⟨[(0, .ve [.d false (.sl (.pr tT (.sl tK))), .d false tI]), (1, .d false tI), (5, .rf 0), (6, .d false tI)], [.row tI 3]⟩
abbrev w34_3 : List Way := [(some 0, ⟨[(5, .rf 0)], [.row tI 3]⟩)]
noncomputable def S34_3 : z4K.den → Option (z4K.den ⊕ denX w34_3) := z0W tb [] [] (upTo 41) Tryz.f34 3 z4K w34_3
noncomputable def F34 (g34_3 : z4K.den → Option (denX w34_3)) : TF34 := z0t tb [] [(3, lp z4K w34_3 g34_3)] Tryz.f34 ps34 rs34
theorem call34 {g34_3 : z4K.den → Option (denX w34_3)} (hg34_3 : Lim (S34_3) g34_3) : z0a Tryz.prog 34 (mkCall ps34 rs34 (F34 g34_3)) :=
 z0f mixed z0i (Δ := []) trivial ⟨Tryz.func34, rfl, by kernel_rfl, by kernel_rfl, by kernel_rfl, by kernel_rfl⟩ rfl (z0b (cs := [.loop (z0R Tryz.f34 3)]) (by kernel_rfl) (by kernel_rfl) (by kernel_rfl) ⟨z0p mixed z0i (Δ := []) trivial hg34_3 (z0b (Λ := []) (cs := []) (by kernel_rfl) (by kernel_rfl) (by kernel_rfl) trivial), trivial⟩)
abbrev ps10 : List SV := [.d false (.sl (.pr tI (.pr tS (.pr tA (.pr tA (.pr tI (.pr tI (.pr .bool (.pr (.int .u64) (.pr (.pr tI (.pr (.int .u64) tA)) (.pr (.sl (.int .u8)) (.sl .bool)))))))))))), .d false tI, .d false tI]
abbrev rs10 : Shape := ⟨[(0, .d false .bool)], []⟩
abbrev TF10 := SV.denL ps10 → Option rs10.den
abbrev z4g : Shape := ⟨[(1, .d false tI), (2, .d false tI), (7, .pt 0 0), (8, .pt 1 0), (18, .d false (.sl (.pr tI (.pr tS (.pr tA (.pr tA (.pr tI (.pr tI (.pr .bool (.pr (.int .u64) (.pr (.pr tI (.pr (.int .u64) tA)) (.pr (.sl (.int .u8)) (.sl .bool))))))))))))), (19, .d false tI), (20, .d false tI)], [.box 76 [.ro 2, .d false tI], .box 123 [.ro 3, .d false tI], .nr tT tC 114 110, .nr tT tK 140 177]⟩
abbrev w10_5 : List Way := [(none, ⟨[(6, .d false .bool)], []⟩), (some 0, ⟨[(1, .d false tI), (7, .pt 0 0), (8, .pt 1 0)], [.box 76 [.ro 2, .d false tI], .box 123 [.ro 3, .d false tI], .nr tT tC 114 110, .nr tT tK 140 177]⟩)]
abbrev z2K : Shape := ⟨[(1, .d false tI), (7, .pt 0 0), (8, .pt 1 0), (13, .d false tI)], [.box 76 [.ro 2, .d false tI], .box 123 [.ro 3, .d false tI], .nr tT tC 114 110, .nr tT tK 140 177]⟩
abbrev z4A : List Way := [(none, ⟨[(6, .d false .bool)], []⟩), (some 2, ⟨[(1, .d false tI), (7, .pt 0 0), (8, .pt 1 0)], [.box 76 [.ro 2, .d false tI], .box 123 [.ro 3, .d false tI], .nr tT tC 114 110, .nr tT tK 140 177]⟩)]
noncomputable def S10_5 (F13 : TF13) (F21 : TF21) (F31 : TF31) : z4g.den → Option (z4g.den ⊕ denX w10_5) := z0W tb [(13, mkCallB psh13 rs13 m13 1 F13), (21, mkCall ps21 rs21 F21), (31, mkCallB psh31 rs31 m31 1 F31)] [] (upTo 81) Tryz.f10 5 z4g w10_5
noncomputable def S10_15 (F32 : TF32) (F33 : TF33) (F34 : TF34) : z2K.den → Option (z2K.den ⊕ denX z4A) := z0W tb [(32, mkCall ps32 rs32 F32), (33, mkCall ps33 rs33 F33), (34, mkCall ps34 rs34 F34)] [] (upTo 81) Tryz.f10 15 z2K z4A
noncomputable def F10 (F12 : TF12) (F22 : TF22) (F30 : TF30) (F35 : TF35) (g10_5 : z4g.den → Option (denX w10_5)) (g10_15 : z2K.den → Option (denX z4A)) : TF10 := z0t tb [(12, mkCall ps12 rs12 F12), (22, mkCall ps22 rs22 F22), (30, mkCall ps30 rs30 F30), (35, mkCall ps35 rs35 F35)] [(5, lp z4g w10_5 g10_5), (15, lp z2K z4A g10_15)] Tryz.f10 ps10 rs10
theorem call10 {F12 : TF12} {F13 : TF13} {F21 : TF21} {F22 : TF22} {F30 : TF30} {F31 : TF31} {F32 : TF32} {F33 : TF33} {F34 : TF34} {F35 : TF35} {g10_5 : z4g.den → Option (denX w10_5)} {g10_15 : z2K.den → Option (denX z4A)} (h12 : z0a Tryz.prog 12 (mkCall ps12 rs12 F12)) (h13 : z0a Tryz.prog 13 (mkCallB psh13 rs13 m13 1 F13)) (h21 : z0a Tryz.prog 21 (mkCall ps21 rs21 F21)) (h22 : z0a Tryz.prog 22 (mkCall ps22 rs22 F22)) (h30 : z0a Tryz.prog 30 (mkCall ps30 rs30 F30)) (h31 : z0a Tryz.prog 31 (mkCallB psh31 rs31 m31 1 F31)) (h32 : z0a Tryz.prog 32 (mkCall ps32 rs32 F32)) (h33 : z0a Tryz.prog 33 (mkCall ps33 rs33 F33)) (h34 : z0a Tryz.prog 34 (mkCall ps34 rs34 F34)) (h35 : z0a Tryz.prog 35 (mkCall ps35 rs35 F35)) (hg10_5 : Lim (S10_5 F13 F21 F31) g10_5) (hg10_15 : Lim (S10_15 F32 F33 F34) g10_15) : z0a Tryz.prog 10 (mkCall ps10 rs10 (F10 F12 F22 F30 F35 g10_5 g10_15)) :=
 z0f mixed z0i (Δ := [(12, mkCall ps12 rs12 F12), (22, mkCall ps22 rs22 F22), (30, mkCall ps30 rs30 F30), (35, mkCall ps35 rs35 F35)]) ⟨.inl h12, .inl h22, .inl h30, .inl h35, trivial⟩ ⟨Tryz.func10, rfl, by kernel_rfl, by kernel_rfl, by kernel_rfl, by kernel_rfl⟩ rfl (z0b (cs := [.loop (z0R Tryz.f10 5), .loop (z0R Tryz.f10 15)]) (by kernel_rfl) (by kernel_rfl) (by kernel_rfl) ⟨z0p mixed z0i (Δ := [(13, mkCallB psh13 rs13 m13 1 F13), (21, mkCall ps21 rs21 F21), (31, mkCallB psh31 rs31 m31 1 F31)]) ⟨.inl h13, .inl h21, .inl h31, trivial⟩ hg10_5 (z0b (Λ := []) (cs := []) (by kernel_rfl) (by kernel_rfl) (by kernel_rfl) trivial), z0p mixed z0i (Δ := [(32, mkCall ps32 rs32 F32), (33, mkCall ps33 rs33 F33), (34, mkCall ps34 rs34 F34)]) ⟨.inl h32, .inl h33, .inl h34, trivial⟩ hg10_15 (z0b (Λ := []) (cs := []) (by kernel_rfl) (by kernel_rfl) (by kernel_rfl) trivial), trivial⟩)
abbrev ps3 : List SV := [.d false (.sl (.pr tI (.pr tS (.pr tA (.pr tA (.pr tI (.pr tI (.pr .bool (.pr (.int .u64) (.pr (.pr tI (.pr (.int .u64) tA)) (.pr (.sl (.int .u8)) (.sl .bool))))))))))))]
abbrev rs3 : Shape := ⟨[(0, .d false .bool)], []⟩
abbrev TF3 := SV.denL ps3 → Option rs3.den
noncomputable def F3 (F8 : TF8) (F9 : TF9) (F10 : TF10) : TF3 := z0t tb [(8, mkCall ps8 rs8 F8), (9, mkCall ps9 rs9 F9), (10, mkCall ps10 rs10 F10)] [] Tryz.f3 ps3 rs3
abbrev ps5 : List SV := [.d false (.sl (.pr tI (.pr tS (.pr tA (.pr tA (.pr tI (.pr tI (.pr .bool (.pr (.int .u64) (.pr (.pr tI (.pr (.int .u64) tA)) (.pr (.sl (.int .u8)) (.sl .bool))))))))))))]
abbrev rs5 : Shape := ⟨[(0, .d false .bool)], []⟩
abbrev TF5 := SV.denL ps5 → Option rs5.den
noncomputable def F5 (F8 : TF8) (F9 : TF9) (F10 : TF10) : TF5 := z0t tb [(8, mkCall ps8 rs8 F8), (9, mkCall ps9 rs9 F9), (10, mkCall ps10 rs10 F10)] [] Tryz.f5 ps5 rs5
theorem call5 {F10 : TF10} {F8 : TF8} {F9 : TF9} (h10 : z0a Tryz.prog 10 (mkCall ps10 rs10 F10)) (h8 : z0a Tryz.prog 8 (mkCall ps8 rs8 F8)) (h9 : z0a Tryz.prog 9 (mkCall ps9 rs9 F9)) : z0a Tryz.prog 5 (mkCall ps5 rs5 (F5 F8 F9 F10)) :=
 z0f mixed z0i (Δ := [(8, mkCall ps8 rs8 F8), (9, mkCall ps9 rs9 F9), (10, mkCall ps10 rs10 F10)]) ⟨.inl h8, .inl h9, .inl h10, trivial⟩ ⟨Tryz.func5, rfl, by kernel_rfl, by kernel_rfl, by kernel_rfl, by kernel_rfl⟩ rfl (z0b (Λ := []) (cs := []) (by kernel_rfl) (by kernel_rfl) (by kernel_rfl) trivial)
abbrev ps62 : List SV := [.d false (.sl (.pr tT (.sl tC))), .d false (.sl (.pr tT (.sl tC))), .d false (.fk 63)]
abbrev rs62 : Shape := ⟨[(0, .d false .bool)], []⟩
abbrev TF62 := SV.denL ps62 → Option rs62.den
abbrev sh62_4 : Shape := ⟨[(1, .d false (.sl (.pr tT (.sl tC)))), (2, .fn 63 []), (15, .d false (.sl (.pr tT (.sl tC)))), (16, .d false tI), (17, .d false tI)], []⟩
abbrev w62_4 : List Way := [(none, ⟨[(6, .d false .bool)], []⟩), (some 0, ⟨[], []⟩)]
noncomputable def F62 (g62_4 : sh62_4.den → Option (denX w62_4)) : TF62 := z0t tb [] [(4, lp sh62_4 w62_4 g62_4)] Tryz.f62 ps62 rs62
abbrev ps23 : List SV := [.ve [.d false (.sl (.pr tT (.sl tC))), .d false tI], .ve [.d false (.sl (.pr tT (.sl tC))), .d false tI]]
abbrev rs23 : Shape := ⟨[(0, .d false .bool)], []⟩
abbrev TF23 := SV.denL ps23 → Option rs23.den
noncomputable def F23 (F62 : TF62) : TF23 := z0t tb [(62, mkCall ps62 rs62 F62)] [] Tryz.f23 ps23 rs23
end Go.Proofs.Rf
