/- Texts put together: Q01, EQ010, EQ011, L01. -/
import Derived.Test.YtofmlmonkfocnaaGreatDoorM3
/- The functions of the program as functions over data. -/
set_option linter.unusedVariables false
namespace Go.Proofs.Rf
open Go Go.RowKit
abbrev tb : Tab := tabOf tyTab
theorem mixed : Tryz.prog.follows .mixedOrders = true := by kernel_rfl
abbrev tN : Ty := .sl (.int .u32)
abbrev tU : Ty := .int .u32
abbrev tI : Ty := .int .i64
abbrev tZ : Ty := .pr .bool tN
abbrev tS : Ty := .str
abbrev El125 := Int × Int
abbrev psh125 : Shape := ⟨[(1, .pt 0 0)], [.box 83 [.d false tN]]⟩
abbrev head125 : Shape := ⟨[(1, .pt 0 0), (3, .d false tI)], [.box 83 [.d false tN]]⟩
abbrev Dt125 := psh125.den → Option (List El125)
def avs125 (e : El125) : List AV := [.d tI e.1, .d tU e.2]
def encs125 (e : El125) : List Value := [.int .i64 e.1, .int .u32 e.2]
abbrev cap125 (D : Dt125) : (Nat → Blk) → List AV → Option (List El125) := capG psh125 D
theorem rel125 (w : World) (ok : Nat → Prop) (ι : Nat → Option Value) (e : El125) : RelL w ok ι (avs125 e) (encs125 e) := RelL_cons.2 ⟨_, _, rfl, rel_int.2 rfl, RelL_cons.2 ⟨_, _, rfl, rel_int.2 rfl, RelL_nil.2 rfl⟩⟩
def elOf125 : List AV → Option El125
  | [.d (.int .i64) i, .d (.int .u32) x] => some (i, x)
  | _ => none
theorem el125 (args : List AV) (e : El125) (w : World) (ok : Nat → Prop) (ι : Nat → Option Value) (vals : List Value) (h : elOf125 args = some e) (hr : RelL w ok ι args vals) : vals = encs125 e := by
  unfold elOf125 at h
  split at h
  · injection h with h
    subst h
    obtain ⟨v, vr, e1, h1, h2⟩ := RelL_cons.1 hr
    obtain ⟨v', vr', e2, h3, h4⟩ := RelL_cons.1 h2
    rw [e1, e2, rel_int.1 h1, rel_int.1 h3, RelL_nil.1 h4]
    rfl
  · cases h
noncomputable def B125 : psh125.den → Option head125.den := startY tb (lookL []) (roundOk (upTo 19) (rangeN 0 2)) (lookL []) (some (preOf Tryz.f125)) head125 psh125
noncomputable def Y125 : head125.den → Option (RY head125.den El125) := stepY tb (lookL []) (roundOk (upTo 19) (rangeN 0 2)) (lookL []) 3 6 head125 head125 elOf125 0 (loopOf Tryz.f125 1)
theorem it125 {D : Dt125} (hD : Coll B125 Y125 D) : IterOK Tryz.prog 125 encs125 (cap125 D) :=
  iterOK_at mixed tabOK (Δ := []) trivial ⟨Tryz.func125, by kernel_rfl, by kernel_rfl, by kernel_rfl, by kernel_rfl, by kernel_rfl, by kernel_rfl, by kernel_rfl, by kernel_rfl, by kernel_rfl, by kernel_rfl, by kernel_rfl, by kernel_rfl, by kernel_rfl⟩ el125
    (loopsAt_zip (Λ := []) (cs := []) (by kernel_rfl) (by kernel_rfl) (by kernel_rfl) trivial) (fun p hp => by injection hp with hp; subst hp; exact loopsAt_zip (Λ := []) (cs := []) (by kernel_rfl) (by kernel_rfl) (by kernel_rfl) trivial) hD
abbrev El142 := List UInt8
abbrev psh142 : Shape := ⟨[(1, .pt 0 0)], [.box 9 [.d false .str]]⟩
abbrev head142 : Shape := ⟨[(1, .pt 0 0), (3, .d false tI)], [.box 9 [.d false .str]]⟩
abbrev Dt142 := psh142.den → Option (List El142)
def avs142 (e : El142) : List AV := [.d .str e]
def encs142 (e : El142) : List Value := [.string ⟨e.toArray⟩]
abbrev cap142 (D : Dt142) : (Nat → Blk) → List AV → Option (List El142) := capG psh142 D
theorem rel142 (w : World) (ok : Nat → Prop) (ι : Nat → Option Value) (e : El142) : RelL w ok ι (avs142 e) (encs142 e) := RelL_cons.2 ⟨_, _, rfl, rel_str.2 rfl, RelL_nil.2 rfl⟩
def elOf142 : List AV → Option El142
  | [.d .str x] => some x
  | _ => none
theorem el142 (args : List AV) (e : El142) (w : World) (ok : Nat → Prop) (ι : Nat → Option Value) (vals : List Value) (h : elOf142 args = some e) (hr : RelL w ok ι args vals) : vals = encs142 e := by
  unfold elOf142 at h
  split at h
  · injection h with h
    subst h
    obtain ⟨v, vr, e1, h1, h2⟩ := RelL_cons.1 hr
    rw [e1, rel_str.1 h1, RelL_nil.1 h2]
    rfl
  · cases h
noncomputable def B142 : psh142.den → Option head142.den := startY tb (lookL []) (roundOk (upTo 19) (rangeN 0 2)) (lookL []) (some (preOf Tryz.f142)) head142 psh142
noncomputable def Y142 : head142.den → Option (RY head142.den El142) := stepY tb (lookL []) (roundOk (upTo 19) (rangeN 0 2)) (lookL []) 3 7 head142 head142 elOf142 0 (loopOf Tryz.f142 1)
theorem it142 {D : Dt142} (hD : Coll B142 Y142 D) : IterOK Tryz.prog 142 encs142 (cap142 D) :=
  iterOK_at mixed tabOK (Δ := []) trivial ⟨Tryz.func142, by kernel_rfl, by kernel_rfl, by kernel_rfl, by kernel_rfl, by kernel_rfl, by kernel_rfl, by kernel_rfl, by kernel_rfl, by kernel_rfl, by kernel_rfl, by kernel_rfl, by kernel_rfl, by kernel_rfl⟩ el142
    (loopsAt_zip (Λ := []) (cs := []) (by kernel_rfl) (by kernel_rfl) (by kernel_rfl) trivial) (fun p hp => by injection hp with hp; subst hp; exact loopsAt_zip (Λ := []) (cs := []) (by kernel_rfl) (by kernel_rfl) (by kernel_rfl) trivial) hD
/-- Join: the elements, the separator between them. -/
abbrev ps108 : List SV := [.d false (.sl .str), .d false .str]
abbrev rs108 : Shape := rsStr
def joinOk (xs : List (List UInt8)) (sep : List UInt8) : Bool := Nat.ble xs.length 1000000 && Nat.ble (Lib.join xs sep).length 1000000
def F108 : SV.denL ps108 → Option rs108.den := fun x => if joinOk x.1 x.2.1 = true then some ((Lib.join x.1 x.2.1, ()), ()) else none
theorem strs_cells {w : World} {ok : Nat → Prop} : ∀ (xs : List (List UInt8)) (cs : List Value), RzL (Rz w ok .str) xs cs → ∀ (j : Nat) (x : ByteArray), (xs.map fun s => (⟨s.toArray⟩ : ByteArray))[j]? = some x → cs[j]? = some (.string x)
  | [], cs, _, j, x, hx => by simp at hx
  | s :: xs, cs, h, j, x, hx => by
    obtain ⟨us, vr, e, h1, h2⟩ := h
    have h1 : us = [.string ⟨s.toArray⟩] := h1
    subst h1
    subst e
    cases j with
    | zero =>
      simp only [List.map_cons, List.getElem?_cons_zero] at hx
      injection hx with hx
      subst hx
      rfl
    | succ j => exact strs_cells xs vr h2 j x (by simpa using hx)
theorem call108 : CallOK Tryz.prog 108 (mkCall ps108 rs108 F108) := by
  refine mkCall_given Tryz.func108 (by kernel_rfl) (by kernel_rfl) ?_
  intro w ok x vs s hok _ hr hF
  unfold F108 at hF
  split at hF
  · rename_i hj
    obtain ⟨xs, sep, ⟨⟩⟩ := x
    injection hF with hF
    injection hF with hF _
    injection hF with hF _
    subst hF
    unfold joinOk at hj
    rw [Bool.and_eq_true] at hj
    have j1 := Nat.le_of_ble_eq_true hj.1
    have j2 := Nat.le_of_ble_eq_true hj.2
    simp only at j1 j2
    obtain ⟨v1, vr, e1, h1, h2⟩ := RelL_cons.1 (show RelL w ok _ [.d (.sl .str) xs, .d .str sep] vs from hr)
    obtain ⟨v2, vr2, e2, h3, h4⟩ := RelL_cons.1 h2
    rw [RelL_nil.1 h4] at e2
    subst e2; subst e1
    rw [rel_str] at h3
    subst h3
    simp only [RelV] at h1
    obtain ⟨A, c, e, hc, hh⟩ := h1
    injection e with e _
    subst e
    have hmap : (xs.map fun s => (⟨s.toArray⟩ : ByteArray)).map (fun b => b.data.toList) = xs := by
      rw [List.map_map]
      exact List.map_id' _ |>.symm ▸ (by simp)
    rcases Nat.eq_zero_or_pos xs.length with h0 | h0
    · obtain rfl := List.length_eq_zero_iff.1 h0
      exact (Tryz.strings_Join_none A c _ w).mono fun e w' ⟨h1, h2⟩ => ⟨h1, h2 ▸ Below.refl _ _⟩
    · obtain ⟨g, o, cs, rfl, hg, hcs, hcell⟩ := hh h0
      have hJ := Tryz.strings_Join g o c (xs.map fun s => (⟨s.toArray⟩ : ByteArray)) ⟨sep.toArray⟩ w (fun j x hx => hcell j _ (strs_cells xs cs hcs j x hx)) (hok g hg) (by rw [List.length_map]; omega) (by rw [List.length_map]; exact hc) (by rw [hmap]; simp only; omega)
      rw [hmap, List.length_map] at hJ
      exact hJ
  · cases hF
theorem tab10 {w : World} {ok : Nat → Prop} (hg : GlOK w ok) : Lib.TabIs Tryz.prog w "internal/strconv.uint64pow10" .u64 Lib.pow10Tab := by
  obtain ⟨_, _, e, fz, hh⟩ := hg 1 _ rfl
  unfold Lib.TabIs World.var?
  rw [show Tryz.prog.globalNamed "internal/strconv.uint64pow10" = some 1 by kernel_rfl, Option.bind_some, hh]
  exact congrArg some (by kernel_rfl)
/-- Repeat: so many copies. -/
abbrev ps105 : List SV := [.d false .str, .d false tI]
abbrev rs105 : Shape := rsStr
def repOk (s : List UInt8) (c : Int) : Bool := decide (0 ≤ c) && (decide (c ≤ 1000000) && Nat.ble (s.length * c.toNat) 1000000)
def F105 : SV.denL ps105 → Option rs105.den := fun x => if repOk x.1 x.2.1 = true then some ((Lib.repeatL x.1 x.2.1.toNat, ()), ()) else none
theorem call105 : CallOK Tryz.prog 105 (mkCall ps105 rs105 F105) := by
  refine mkCall_given Tryz.func105 (by kernel_rfl) (by kernel_rfl) ?_
  intro w ok x vs s hok hg hr hF
  unfold F105 at hF
  split at hF
  · rename_i hj
    obtain ⟨s0, c, ⟨⟩⟩ := x
    injection hF with hF
    injection hF with hF _
    injection hF with hF _
    subst hF
    unfold repOk at hj
    rw [Bool.and_eq_true, Bool.and_eq_true] at hj
    have j0 : @LE.le Int _ 0 c := of_decide_eq_true hj.1
    have j1 : @LE.le Int _ c 1000000 := of_decide_eq_true hj.2.1
    have j2 := Nat.le_of_ble_eq_true hj.2.2
    simp only at j2
    obtain ⟨v1, vr, e1, h1, h2⟩ := RelL_cons.1 (show RelL w ok _ [.d .str s0, .d (.int .i64) c] vs from hr)
    obtain ⟨v2, vr2, e2, h3, h4⟩ := RelL_cons.1 h2
    rw [RelL_nil.1 h4] at e2
    subst e2; subst e1
    rw [rel_str] at h1
    rw [rel_int] at h3
    subst h1; subst h3
    have key : ∀ c : Int, 0 ≤ c → c ≤ 1000000 → s0.length * c.toNat ≤ 1000000 → Calls Tryz.prog 105 #[.string ⟨s0.toArray⟩, .int .i64 c] w fun e w' => e = .returned (.string ⟨(Lib.repeatL s0 c.toNat).toArray⟩) ∧ Below w.heap.size w w' := by
      intro c k0 k1 k2
      obtain ⟨n, rfl⟩ : ∃ n : Nat, c = (n : Int) := ⟨c.toNat, (Int.toNat_of_nonneg k0).symm⟩
      exact Tryz.strings_Repeat ⟨s0.toArray⟩ n w (by omega) (by rw [size_mk]; rw [Int.toNat_natCast] at k2; omega)
    exact key c j0 j1 j2
  · cases hF
/-- How many digits a number has. -/
abbrev ps127 : List SV := [.d false (.int .u64)]
abbrev rs127 : Shape := rsInt .i64
def u64Ok (n : Int) : Bool := decide (1 ≤ n) && decide (n < 18446744073709551616)
def F127 : SV.denL ps127 → Option rs127.den := fun x => if u64Ok x.1 = true then some (((Lib.nDigits x.1.toNat : Nat), ()), ()) else none
theorem call127 : CallOK Tryz.prog 127 (mkCall ps127 rs127 F127) := by
  refine mkCall_givenI Tryz.func127 (by kernel_rfl) (by kernel_rfl) ?_
  intro w ok x vs s hok hg hr hF
  unfold F127 at hF
  split at hF
  · rename_i hj
    obtain ⟨n, ⟨⟩⟩ := x
    injection hF with hF
    injection hF with hF _
    injection hF with hF _
    subst hF
    unfold u64Ok at hj
    rw [Bool.and_eq_true] at hj
    have j0 : @LE.le Int _ 1 n := of_decide_eq_true hj.1
    have j1 : @LT.lt Int _ n 18446744073709551616 := of_decide_eq_true hj.2
    obtain ⟨v1, vr, e1, h1, h2⟩ := RelL_cons.1 (show RelL w ok _ [.d (.int .u64) n] vs from hr)
    rw [RelL_nil.1 h2] at e1
    subst e1
    rw [rel_int] at h1
    subst h1
    have key : ∀ n : Int, 1 ≤ n → n < 18446744073709551616 → Calls Tryz.prog 127 #[.int .u64 n] w fun e w' => e = .returned (.int .i64 (Lib.nDigits n.toNat : Nat)) ∧ Below w.heap.size w w' := by
      intro n k0 k1
      obtain ⟨m, rfl⟩ : ∃ m : Nat, n = (m : Int) := ⟨n.toNat, (Int.toNat_of_nonneg (by omega)).symm⟩
      refine (Tryz.internal_strconv_numDigits m (by omega) (by omega) w (tab10 hg)).mono ?_
      rintro e w' ⟨h1, rfl⟩
      exact ⟨h1, Below.refl _ _⟩
    exact key n j0 j1
  · cases hF
/-- Itoa: the decimal numeral. -/
abbrev ps104 : List SV := [.d false tI]
abbrev rs104 : Shape := rsStr
def i64Ok (n : Int) : Bool := decide (-9223372036854775808 ≤ n) && decide (n ≤ 9223372036854775807)
def F104 : SV.denL ps104 → Option rs104.den := fun x => if i64Ok x.1 = true then some ((Lib.itoa x.1, ()), ()) else none
theorem call104 : CallOK Tryz.prog 104 (mkCall ps104 rs104 F104) := by
  refine mkCall_given Tryz.func104 (by kernel_rfl) (by kernel_rfl) ?_
  intro w ok x vs s hok hg hr hF
  unfold F104 at hF
  split at hF
  · rename_i hj
    obtain ⟨n, ⟨⟩⟩ := x
    injection hF with hF
    injection hF with hF _
    injection hF with hF _
    subst hF
    unfold i64Ok at hj
    rw [Bool.and_eq_true] at hj
    obtain ⟨v1, vr, e1, h1, h2⟩ := RelL_cons.1 (show RelL w ok _ [.d (.int .i64) n] vs from hr)
    rw [RelL_nil.1 h2] at e1
    subst e1
    rw [rel_int] at h1
    subst h1
    have htab := tab10 hg
    refine (Tryz.strconv_Itoa n (of_decide_eq_true hj.1) (of_decide_eq_true hj.2) w htab).mono ?_
    rintro e w' ⟨h1, k, os, rfl⟩
    refine ⟨h1, ?_⟩
    exact ⟨rfl, rfl, rfl, by show w.heap.size ≤ (w.heap ++ os).size; rw [Array.size_append]; omega, fun j hj => by show (w.heap ++ os)[j]? = _; rw [Array.getElem?_append_left hj]⟩
  · cases hF
/-! 9 bowline/bowlinelaw01.short -/
abbrev ps9 : List SV := [.d false (.sl tS)]
abbrev rs9 : Shape := ⟨[(0, .d false .bool)], []⟩
abbrev sh9_2 : Shape := ⟨[(5, .d false (.sl tS)), (6, .d false tI), (7, .d false tI)], []⟩
abbrev w9_2 : List Way := [(none, ⟨[(2, .d false .bool)], []⟩), (some 0, ⟨[], []⟩)]
noncomputable def S9_2 : sh9_2.den → Option (sh9_2.den ⊕ denX w9_2) := stepFn tb [] [] (upTo 15) Tryz.f9 2 sh9_2 w9_2
noncomputable def F9 (g9_2 : sh9_2.den → Option (denX w9_2)) : (SV.denL ps9) → Option (rs9).den := runFn tb [] [(2, lp sh9_2 w9_2 g9_2)] Tryz.f9 ps9 rs9
theorem call9 {g9_2 : sh9_2.den → Option (denX w9_2)} (hg9_2 : Lim (S9_2) g9_2) : CallOK Tryz.prog 9 (mkCall ps9 rs9 (F9 g9_2)) :=
  runFn_ok mixed tabOK (Δ := []) trivial ⟨Tryz.func9, rfl, by kernel_rfl, by kernel_rfl, by kernel_rfl, by kernel_rfl⟩ rfl (loopsAt_zip (cs := [.loop (loopOf Tryz.f9 2)]) (by kernel_rfl) (by kernel_rfl) (by kernel_rfl) ⟨stepLim_ok mixed tabOK (Δ := []) trivial hg9_2 (loopsAt_zip (Λ := []) (cs := []) (by kernel_rfl) (by kernel_rfl) (by kernel_rfl) trivial), trivial⟩)
/-! 89 bowline/wide.isDigits -/
abbrev ps89 : List SV := [.d false tS]
abbrev rs89 : Shape := ⟨[(0, .d false .bool)], []⟩
abbrev sh89_2 : Shape := ⟨[(0, .d false tS), (6, .pt 0 0)], [.it]⟩
abbrev w89_2 : List Way := [(none, ⟨[(2, .d false .bool)], []⟩), (some 0, ⟨[(0, .d false tS)], []⟩)]
noncomputable def S89_2 : sh89_2.den → Option (sh89_2.den ⊕ denX w89_2) := stepFn tb [] [] (upTo 27) Tryz.f89 2 sh89_2 w89_2
noncomputable def F89 (g89_2 : sh89_2.den → Option (denX w89_2)) : (SV.denL ps89) → Option (rs89).den := runFn tb [] [(2, lp sh89_2 w89_2 g89_2)] Tryz.f89 ps89 rs89
theorem call89 {g89_2 : sh89_2.den → Option (denX w89_2)} (hg89_2 : Lim (S89_2) g89_2) : CallOK Tryz.prog 89 (mkCall ps89 rs89 (F89 g89_2)) :=
  runFn_ok mixed tabOK (Δ := []) trivial ⟨Tryz.func89, rfl, by kernel_rfl, by kernel_rfl, by kernel_rfl, by kernel_rfl⟩ rfl (loopsAt_zip (cs := [.loop (loopOf Tryz.f89 2)]) (by kernel_rfl) (by kernel_rfl) (by kernel_rfl) ⟨stepLim_ok mixed tabOK (Δ := []) trivial hg89_2 (loopsAt_zip (Λ := []) (cs := []) (by kernel_rfl) (by kernel_rfl) (by kernel_rfl) trivial), trivial⟩)
/-! 121 internal/strconv.Atoi -/
abbrev ps121 : List SV := [.d false tS]
abbrev rs121 : Shape := ⟨[(0, .d false tI), (1, .d false .ic)], []⟩
abbrev sh121_10 : Shape := ⟨[(5, .d false tS), (6, .d false tI), (47, .d false (.sl (.int .u8))), (48, .d false tI), (49, .d false tI)], []⟩
abbrev w121_10 : List Way := [(some 0, ⟨[(5, .d false tS), (6, .d false tI)], []⟩)]
noncomputable def S121_10 : sh121_10.den → Option (sh121_10.den ⊕ denX w121_10) := stepFn tb [] [] (upTo 77) Tryz.f121 10 sh121_10 w121_10
noncomputable def F121 (g121_10 : sh121_10.den → Option (denX w121_10)) : (SV.denL ps121) → Option (rs121).den := runFn tb [] [(10, lp sh121_10 w121_10 g121_10)] Tryz.f121 ps121 rs121
theorem call121 {g121_10 : sh121_10.den → Option (denX w121_10)} (hg121_10 : Lim (S121_10) g121_10) : CallOK Tryz.prog 121 (mkCall ps121 rs121 (F121 g121_10)) :=
  runFn_ok mixed tabOK (Δ := []) trivial ⟨Tryz.func121, rfl, by kernel_rfl, by kernel_rfl, by kernel_rfl, by kernel_rfl⟩ rfl (loopsAt_zip (cs := [.loop (loopOf Tryz.f121 10)]) (by kernel_rfl) (by kernel_rfl) (by kernel_rfl) ⟨stepLim_ok mixed tabOK (Δ := []) trivial hg121_10 (loopsAt_zip (Λ := []) (cs := []) (by kernel_rfl) (by kernel_rfl) (by kernel_rfl) trivial), trivial⟩)
/-! 90 strconv.Atoi -/
abbrev ps90 : List SV := [.d false tS]
abbrev rs90 : Shape := ⟨[(0, .d false tI), (1, .d false .ic)], []⟩
noncomputable def F90 (F121 : (SV.denL ps121) → Option (rs121).den) : (SV.denL ps90) → Option (rs90).den := runFn tb [(121, mkCall ps121 rs121 F121)] [] Tryz.f90 ps90 rs90
theorem call90 {F121 : (SV.denL ps121) → Option (rs121).den} (h121 : CallOK Tryz.prog 121 (mkCall ps121 rs121 F121)) : CallOK Tryz.prog 90 (mkCall ps90 rs90 (F90 F121)) :=
  runFn_ok mixed tabOK (Δ := [(121, mkCall ps121 rs121 F121)]) ⟨.inl h121, trivial⟩ ⟨Tryz.func90, rfl, by kernel_rfl, by kernel_rfl, by kernel_rfl, by kernel_rfl⟩ rfl (loopsAt_zip (Λ := []) (cs := []) (by kernel_rfl) (by kernel_rfl) (by kernel_rfl) trivial)
/-! 42 bowline/wide.read -/
abbrev ps42 : List SV := [.d false tS]
abbrev rs42 : Shape := ⟨[(0, .d true (.pr (.pr tI .bool) tS)), (1, .d false tI)], []⟩
noncomputable def F42 (F89 : (SV.denL ps89) → Option (rs89).den) (F90 : (SV.denL ps90) → Option (rs90).den) : (SV.denL ps42) → Option (rs42).den := runFn tb [(89, mkCall ps89 rs89 F89), (90, mkCall ps90 rs90 F90)] [] Tryz.f42 ps42 rs42
theorem call42 {F89 : (SV.denL ps89) → Option (rs89).den} {F90 : (SV.denL ps90) → Option (rs90).den} (h89 : CallOK Tryz.prog 89 (mkCall ps89 rs89 F89)) (h90 : CallOK Tryz.prog 90 (mkCall ps90 rs90 F90)) : CallOK Tryz.prog 42 (mkCall ps42 rs42 (F42 F89 F90)) :=
  runFn_ok mixed tabOK (Δ := [(89, mkCall ps89 rs89 F89), (90, mkCall ps90 rs90 F90)]) ⟨.inl h89, .inl h90, trivial⟩ ⟨Tryz.func42, rfl, by kernel_rfl, by kernel_rfl, by kernel_rfl, by kernel_rfl⟩ rfl (loopsAt_zip (Λ := []) (cs := []) (by kernel_rfl) (by kernel_rfl) (by kernel_rfl) trivial)
/-! 11 bowline/wide.Width -/
abbrev ps11 : List SV := [.d false tS]
abbrev rs11 : Shape := ⟨[(0, .d false tI), (1, .d false .bool), (2, .d false tI)], []⟩
noncomputable def F11 (F42 : (SV.denL ps42) → Option (rs42).den) : (SV.denL ps11) → Option (rs11).den := runFn tb [(42, mkCall ps42 rs42 F42)] [] Tryz.f11 ps11 rs11
theorem call11 {F42 : (SV.denL ps42) → Option (rs42).den} (h42 : CallOK Tryz.prog 42 (mkCall ps42 rs42 F42)) : CallOK Tryz.prog 11 (mkCall ps11 rs11 (F11 F42)) :=
  runFn_ok mixed tabOK (Δ := [(42, mkCall ps42 rs42 F42)]) ⟨.inl h42, trivial⟩ ⟨Tryz.func11, rfl, by kernel_rfl, by kernel_rfl, by kernel_rfl, by kernel_rfl⟩ rfl (loopsAt_zip (Λ := []) (cs := []) (by kernel_rfl) (by kernel_rfl) (by kernel_rfl) trivial)
/-! 57 bowline/wide.mask -/
abbrev ps57 : List SV := [.d false tI]
abbrev rs57 : Shape := ⟨[(0, .d false (.int .u64))], []⟩
noncomputable def F57 : (SV.denL ps57) → Option (rs57).den := runFn tb [] [] Tryz.f57 ps57 rs57
theorem call57 : CallOK Tryz.prog 57 (mkCall ps57 rs57 (F57)) :=
  runFn_ok mixed tabOK (Δ := []) trivial ⟨Tryz.func57, rfl, by kernel_rfl, by kernel_rfl, by kernel_rfl, by kernel_rfl⟩ rfl (loopsAt_zip (Λ := []) (cs := []) (by kernel_rfl) (by kernel_rfl) (by kernel_rfl) trivial)
/-! 126 internal/strconv.small -/
abbrev ps126 : List SV := [.d false tI]
abbrev rs126 : Shape := ⟨[(0, .d false tS)], []⟩
noncomputable def F126 : (SV.denL ps126) → Option (rs126).den := runFn tb [] [] Tryz.f126 ps126 rs126
theorem call126 : CallOK Tryz.prog 126 (mkCall ps126 rs126 (F126)) :=
  runFn_ok mixed tabOK (Δ := []) trivial ⟨Tryz.func126, rfl, by kernel_rfl, by kernel_rfl, by kernel_rfl, by kernel_rfl⟩ rfl (loopsAt_zip (Λ := []) (cs := []) (by kernel_rfl) (by kernel_rfl) (by kernel_rfl) trivial)
/-! 128 internal/strconv.formatBase10 -/
abbrev psh128z : Shape := ⟨[(0, .rz 0 1), (1, .d false (.int .u64))], [.row (.int .u8) 172]⟩
abbrev m128z : List Nat := [0]
abbrev rs128z : Shape := ⟨[(0, .rz 0 1)], [.row (.int .u8) 172]⟩
abbrev sh128z_1 : Shape := ⟨[(0, .rz 0 1), (1, .d false (.int .u64)), (4, .d false tI)], [.row (.int .u8) 172]⟩
abbrev w128z_1 : List Way := [(some 0, sh128z_1)]
noncomputable def S128z_1 : sh128z_1.den → Option (sh128z_1.den ⊕ denX w128z_1) := stepFn tb [] [] (roundOk (upTo 167) (rangeN 0 1)) Tryz.f128 1 sh128z_1 w128z_1
noncomputable def F128z (g128z_1 : sh128z_1.den → Option (denX w128z_1)) : (psh128z.den) → Option (rs128z).den := runFnB tb [] [(1, lp sh128z_1 w128z_1 g128z_1)] Tryz.f128 psh128z rs128z 1
theorem call128z {g128z_1 : sh128z_1.den → Option (denX w128z_1)} (hg128z_1 : Lim (S128z_1) g128z_1) : CallOK Tryz.prog 128 (mkCallB psh128z rs128z m128z 1 (F128z g128z_1)) :=
  runFnB_ok mixed tabOK (Δ := []) trivial ⟨Tryz.func128, rfl, by kernel_rfl, by kernel_rfl, by kernel_rfl, by kernel_rfl, by kernel_rfl, by kernel_rfl, by kernel_rfl, by kernel_rfl, by kernel_rfl⟩ rfl (loopsAt_zip (cs := [.loop (loopOf Tryz.f128 1)]) (by kernel_rfl) (by kernel_rfl) (by kernel_rfl) ⟨stepLim_ok mixed tabOK (Δ := []) trivial hg128z_1 (loopsAt_zip (Λ := []) (cs := []) (by kernel_rfl) (by kernel_rfl) (by kernel_rfl) trivial), trivial⟩)
/-! 98 internal/strconv.FormatUint -/
abbrev ps98 : List SV := [.d false (.int .u64), .d false tI]
abbrev rs98 : Shape := ⟨[(0, .d false tS)], []⟩
noncomputable def F98 (F126 : (SV.denL ps126) → Option (rs126).den) (F127 : (SV.denL ps127) → Option (rs127).den) (F128z : (psh128z.den) → Option (rs128z).den) : (SV.denL ps98) → Option (rs98).den := runFn tb [(126, mkCall ps126 rs126 F126), (127, mkCall ps127 rs127 F127), (128, mkCallB psh128z rs128z m128z 1 F128z)] [] Tryz.f98 ps98 rs98
theorem call98 {F126 : (SV.denL ps126) → Option (rs126).den} {F127 : (SV.denL ps127) → Option (rs127).den} {F128z : (psh128z.den) → Option (rs128z).den} (h126 : CallOK Tryz.prog 126 (mkCall ps126 rs126 F126)) (h127 : CallOK Tryz.prog 127 (mkCall ps127 rs127 F127)) (h128z : CallOK Tryz.prog 128 (mkCallB psh128z rs128z m128z 1 F128z)) : CallOK Tryz.prog 98 (mkCall ps98 rs98 (F98 F126 F127 F128z)) :=
  runFn_ok mixed tabOK (Δ := [(126, mkCall ps126 rs126 F126), (127, mkCall ps127 rs127 F127), (128, mkCallB psh128z rs128z m128z 1 F128z)]) ⟨.inl h126, .inl h127, .inl h128z, trivial⟩ ⟨Tryz.func98, rfl, by kernel_rfl, by kernel_rfl, by kernel_rfl, by kernel_rfl⟩ rfl (loopsAt_zip (Λ := []) (cs := []) (by kernel_rfl) (by kernel_rfl) (by kernel_rfl) trivial)
/-! 58 strconv.FormatUint -/
abbrev ps58 : List SV := [.d false (.int .u64), .d false tI]
abbrev rs58 : Shape := ⟨[(0, .d false tS)], []⟩
noncomputable def F58 (F98 : (SV.denL ps98) → Option (rs98).den) : (SV.denL ps58) → Option (rs58).den := runFn tb [(98, mkCall ps98 rs98 F98)] [] Tryz.f58 ps58 rs58
theorem call58 {F98 : (SV.denL ps98) → Option (rs98).den} (h98 : CallOK Tryz.prog 98 (mkCall ps98 rs98 F98)) : CallOK Tryz.prog 58 (mkCall ps58 rs58 (F58 F98)) :=
  runFn_ok mixed tabOK (Δ := [(98, mkCall ps98 rs98 F98)]) ⟨.inl h98, trivial⟩ ⟨Tryz.func58, rfl, by kernel_rfl, by kernel_rfl, by kernel_rfl, by kernel_rfl⟩ rfl (loopsAt_zip (Λ := []) (cs := []) (by kernel_rfl) (by kernel_rfl) (by kernel_rfl) trivial)
/-! 44 (bowline/wide.integer).limits -/
abbrev ps44 : List SV := [.d true (.pr tI .bool)]
abbrev rs44 : Shape := ⟨[(0, .d true (.pr tS tS))], []⟩
noncomputable def F44 (F57 : (SV.denL ps57) → Option (rs57).den) (F58 : (SV.denL ps58) → Option (rs58).den) : (SV.denL ps44) → Option (rs44).den := runFn tb [(57, mkCall ps57 rs57 F57), (58, mkCall ps58 rs58 F58)] [] Tryz.f44 ps44 rs44
theorem call44 {F57 : (SV.denL ps57) → Option (rs57).den} {F58 : (SV.denL ps58) → Option (rs58).den} (h57 : CallOK Tryz.prog 57 (mkCall ps57 rs57 F57)) (h58 : CallOK Tryz.prog 58 (mkCall ps58 rs58 F58)) : CallOK Tryz.prog 44 (mkCall ps44 rs44 (F44 F57 F58)) :=
  runFn_ok mixed tabOK (Δ := [(57, mkCall ps57 rs57 F57), (58, mkCall ps58 rs58 F58)]) ⟨.inl h57, .inl h58, trivial⟩ ⟨Tryz.func44, rfl, by kernel_rfl, by kernel_rfl, by kernel_rfl, by kernel_rfl⟩ rfl (loopsAt_zip (Λ := []) (cs := []) (by kernel_rfl) (by kernel_rfl) (by kernel_rfl) trivial)
/-! 13 bowline/wide.Limits -/
abbrev ps13 : List SV := [.d false tS]
abbrev rs13 : Shape := ⟨[(0, .d false tS), (1, .d false tS), (2, .d false tI)], []⟩
noncomputable def F13 (F42 : (SV.denL ps42) → Option (rs42).den) (F44 : (SV.denL ps44) → Option (rs44).den) : (SV.denL ps13) → Option (rs13).den := runFn tb [(42, mkCall ps42 rs42 F42), (44, mkCall ps44 rs44 F44)] [] Tryz.f13 ps13 rs13
theorem call13 {F42 : (SV.denL ps42) → Option (rs42).den} {F44 : (SV.denL ps44) → Option (rs44).den} (h42 : CallOK Tryz.prog 42 (mkCall ps42 rs42 F42)) (h44 : CallOK Tryz.prog 44 (mkCall ps44 rs44 F44)) : CallOK Tryz.prog 13 (mkCall ps13 rs13 (F13 F42 F44)) :=
  runFn_ok mixed tabOK (Δ := [(42, mkCall ps42 rs42 F42), (44, mkCall ps44 rs44 F44)]) ⟨.inl h42, .inl h44, trivial⟩ ⟨Tryz.func13, rfl, by kernel_rfl, by kernel_rfl, by kernel_rfl, by kernel_rfl⟩ rfl (loopsAt_zip (Λ := []) (cs := []) (by kernel_rfl) (by kernel_rfl) (by kernel_rfl) trivial)
/-! 15 bowline/wide.Check -/
abbrev ps15 : List SV := [.d false tS]
abbrev rs15 : Shape := ⟨[(0, .d false tI)], []⟩
noncomputable def F15 (F42 : (SV.denL ps42) → Option (rs42).den) : (SV.denL ps15) → Option (rs15).den := runFn tb [(42, mkCall ps42 rs42 F42)] [] Tryz.f15 ps15 rs15
theorem call15 {F42 : (SV.denL ps42) → Option (rs42).den} (h42 : CallOK Tryz.prog 42 (mkCall ps42 rs42 F42)) : CallOK Tryz.prog 15 (mkCall ps15 rs15 (F15 F42)) :=
  runFn_ok mixed tabOK (Δ := [(42, mkCall ps42 rs42 F42)]) ⟨.inl h42, trivial⟩ ⟨Tryz.func15, rfl, by kernel_rfl, by kernel_rfl, by kernel_rfl, by kernel_rfl⟩ rfl (loopsAt_zip (Λ := []) (cs := []) (by kernel_rfl) (by kernel_rfl) (by kernel_rfl) trivial)
/-! 55 bowline/wide.first -/
abbrev ps55 : List SV := [.d false (.sl tI)]
abbrev rs55 : Shape := ⟨[(0, .d false tI)], []⟩
abbrev sh55_2 : Shape := ⟨[(5, .d false (.sl tI)), (6, .d false tI), (7, .d false tI)], []⟩
abbrev w55_2 : List Way := [(none, ⟨[(2, .d false tI)], []⟩), (some 0, ⟨[], []⟩)]
noncomputable def S55_2 : sh55_2.den → Option (sh55_2.den ⊕ denX w55_2) := stepFn tb [] [] (upTo 15) Tryz.f55 2 sh55_2 w55_2
noncomputable def F55 (g55_2 : sh55_2.den → Option (denX w55_2)) : (SV.denL ps55) → Option (rs55).den := runFn tb [] [(2, lp sh55_2 w55_2 g55_2)] Tryz.f55 ps55 rs55
theorem call55 {g55_2 : sh55_2.den → Option (denX w55_2)} (hg55_2 : Lim (S55_2) g55_2) : CallOK Tryz.prog 55 (mkCall ps55 rs55 (F55 g55_2)) :=
  runFn_ok mixed tabOK (Δ := []) trivial ⟨Tryz.func55, rfl, by kernel_rfl, by kernel_rfl, by kernel_rfl, by kernel_rfl⟩ rfl (loopsAt_zip (cs := [.loop (loopOf Tryz.f55 2)]) (by kernel_rfl) (by kernel_rfl) (by kernel_rfl) ⟨stepLim_ok mixed tabOK (Δ := []) trivial hg55_2 (loopsAt_zip (Λ := []) (cs := []) (by kernel_rfl) (by kernel_rfl) (by kernel_rfl) trivial), trivial⟩)
/-! 56 bowline/wide.when -/
abbrev ps56 : List SV := [.d false .bool, .d false tI]
abbrev rs56 : Shape := ⟨[(0, .d false tI)], []⟩
noncomputable def F56 : (SV.denL ps56) → Option (rs56).den := runFn tb [] [] Tryz.f56 ps56 rs56
theorem call56 : CallOK Tryz.prog 56 (mkCall ps56 rs56 (F56)) :=
  runFn_ok mixed tabOK (Δ := []) trivial ⟨Tryz.func56, rfl, by kernel_rfl, by kernel_rfl, by kernel_rfl, by kernel_rfl⟩ rfl (loopsAt_zip (Λ := []) (cs := []) (by kernel_rfl) (by kernel_rfl) (by kernel_rfl) trivial)
/-! 100 internal/stringslite.HasPrefix -/
abbrev ps100 : List SV := [.d false tS, .d false tS]
abbrev rs100 : Shape := ⟨[(0, .d false .bool)], []⟩
noncomputable def F100 : (SV.denL ps100) → Option (rs100).den := runFn tb [] [] Tryz.f100 ps100 rs100
theorem call100 : CallOK Tryz.prog 100 (mkCall ps100 rs100 (F100)) :=
  runFn_ok mixed tabOK (Δ := []) trivial ⟨Tryz.func100, rfl, by kernel_rfl, by kernel_rfl, by kernel_rfl, by kernel_rfl⟩ rfl (loopsAt_zip (Λ := []) (cs := []) (by kernel_rfl) (by kernel_rfl) (by kernel_rfl) trivial)
/-! 120 internal/stringslite.CutPrefix -/
abbrev ps120 : List SV := [.d false tS, .d false tS]
abbrev rs120 : Shape := ⟨[(0, .d false tS), (1, .d false .bool)], []⟩
noncomputable def F120 (F100 : (SV.denL ps100) → Option (rs100).den) : (SV.denL ps120) → Option (rs120).den := runFn tb [(100, mkCall ps100 rs100 F100)] [] Tryz.f120 ps120 rs120
theorem call120 {F100 : (SV.denL ps100) → Option (rs100).den} (h100 : CallOK Tryz.prog 100 (mkCall ps100 rs100 F100)) : CallOK Tryz.prog 120 (mkCall ps120 rs120 (F120 F100)) :=
  runFn_ok mixed tabOK (Δ := [(100, mkCall ps100 rs100 F100)]) ⟨.inl h100, trivial⟩ ⟨Tryz.func120, rfl, by kernel_rfl, by kernel_rfl, by kernel_rfl, by kernel_rfl⟩ rfl (loopsAt_zip (Λ := []) (cs := []) (by kernel_rfl) (by kernel_rfl) (by kernel_rfl) trivial)
/-! 88 strings.CutPrefix -/
abbrev ps88 : List SV := [.d false tS, .d false tS]
abbrev rs88 : Shape := ⟨[(0, .d false tS), (1, .d false .bool)], []⟩
noncomputable def F88 (F120 : (SV.denL ps120) → Option (rs120).den) : (SV.denL ps88) → Option (rs88).den := runFn tb [(120, mkCall ps120 rs120 F120)] [] Tryz.f88 ps88 rs88
theorem call88 {F120 : (SV.denL ps120) → Option (rs120).den} (h120 : CallOK Tryz.prog 120 (mkCall ps120 rs120 F120)) : CallOK Tryz.prog 88 (mkCall ps88 rs88 (F88 F120)) :=
  runFn_ok mixed tabOK (Δ := [(120, mkCall ps120 rs120 F120)]) ⟨.inl h120, trivial⟩ ⟨Tryz.func88, rfl, by kernel_rfl, by kernel_rfl, by kernel_rfl, by kernel_rfl⟩ rfl (loopsAt_zip (Λ := []) (cs := []) (by kernel_rfl) (by kernel_rfl) (by kernel_rfl) trivial)
/-! 41 bowline/wide.CheckInt -/
abbrev ps41 : List SV := [.d false tS]
abbrev rs41 : Shape := ⟨[(0, .d false tI)], []⟩
noncomputable def F41 (F55 : (SV.denL ps55) → Option (rs55).den) (F56 : (SV.denL ps56) → Option (rs56).den) (F88 : (SV.denL ps88) → Option (rs88).den) (F89 : (SV.denL ps89) → Option (rs89).den) : (SV.denL ps41) → Option (rs41).den := runFn tb [(55, mkCall ps55 rs55 F55), (56, mkCall ps56 rs56 F56), (88, mkCall ps88 rs88 F88), (89, mkCall ps89 rs89 F89)] [] Tryz.f41 ps41 rs41
theorem call41 {F55 : (SV.denL ps55) → Option (rs55).den} {F56 : (SV.denL ps56) → Option (rs56).den} {F88 : (SV.denL ps88) → Option (rs88).den} {F89 : (SV.denL ps89) → Option (rs89).den} (h55 : CallOK Tryz.prog 55 (mkCall ps55 rs55 F55)) (h56 : CallOK Tryz.prog 56 (mkCall ps56 rs56 F56)) (h88 : CallOK Tryz.prog 88 (mkCall ps88 rs88 F88)) (h89 : CallOK Tryz.prog 89 (mkCall ps89 rs89 F89)) : CallOK Tryz.prog 41 (mkCall ps41 rs41 (F41 F55 F56 F88 F89)) :=
  runFn_ok mixed tabOK (Δ := [(55, mkCall ps55 rs55 F55), (56, mkCall ps56 rs56 F56), (88, mkCall ps88 rs88 F88), (89, mkCall ps89 rs89 F89)]) ⟨.inl h55, .inl h56, .inl h88, .inl h89, trivial⟩ ⟨Tryz.func41, rfl, by kernel_rfl, by kernel_rfl, by kernel_rfl, by kernel_rfl⟩ rfl (loopsAt_zip (Λ := []) (cs := []) (by kernel_rfl) (by kernel_rfl) (by kernel_rfl) trivial)
/-! 101 bowline/wide.trim -/
abbrev ps101 : List SV := [.d false tN]
abbrev rs101 : Shape := ⟨[(0, .d false tN)], []⟩
abbrev sh101_1 : Shape := ⟨[(0, .d false tN)], []⟩
abbrev w101_1 : List Way := [(some 0, sh101_1)]
noncomputable def S101_1 : sh101_1.den → Option (sh101_1.den ⊕ denX w101_1) := stepFn tb [] [] (upTo 21) Tryz.f101 1 sh101_1 w101_1
noncomputable def F101 (g101_1 : sh101_1.den → Option (denX w101_1)) : (SV.denL ps101) → Option (rs101).den := runFn tb [] [(1, lp sh101_1 w101_1 g101_1)] Tryz.f101 ps101 rs101
theorem call101 {g101_1 : sh101_1.den → Option (denX w101_1)} (hg101_1 : Lim (S101_1) g101_1) : CallOK Tryz.prog 101 (mkCall ps101 rs101 (F101 g101_1)) :=
  runFn_ok mixed tabOK (Δ := []) trivial ⟨Tryz.func101, rfl, by kernel_rfl, by kernel_rfl, by kernel_rfl, by kernel_rfl⟩ rfl (loopsAt_zip (cs := [.loop (loopOf Tryz.f101 1)]) (by kernel_rfl) (by kernel_rfl) (by kernel_rfl) ⟨stepLim_ok mixed tabOK (Δ := []) trivial hg101_1 (loopsAt_zip (Λ := []) (cs := []) (by kernel_rfl) (by kernel_rfl) (by kernel_rfl) trivial), trivial⟩)
/-! 115 (bowline/wide.exact).trimmed -/
abbrev ps115 : List SV := [.d true tZ]
abbrev rs115 : Shape := ⟨[(0, .d true tZ)], []⟩
noncomputable def F115 (F101 : (SV.denL ps101) → Option (rs101).den) : (SV.denL ps115) → Option (rs115).den := runFn tb [(101, mkCall ps101 rs101 F101)] [] Tryz.f115 ps115 rs115
theorem call115 {F101 : (SV.denL ps101) → Option (rs101).den} (h101 : CallOK Tryz.prog 101 (mkCall ps101 rs101 F101)) : CallOK Tryz.prog 115 (mkCall ps115 rs115 (F115 F101)) :=
  runFn_ok mixed tabOK (Δ := [(101, mkCall ps101 rs101 F101)]) ⟨.inl h101, trivial⟩ ⟨Tryz.func115, rfl, by kernel_rfl, by kernel_rfl, by kernel_rfl, by kernel_rfl⟩ rfl (loopsAt_zip (Λ := []) (cs := []) (by kernel_rfl) (by kernel_rfl) (by kernel_rfl) trivial)
/-! 118 bowline/wide.pieces -/
abbrev ps118 : List SV := [.d false tS]
abbrev rs118 : Shape := ⟨[(0, .fn 142 [.pt 0 0])], [.box 9 [.d false tS]]⟩
noncomputable def F118 : (SV.denL ps118) → Option (rs118).den := runFn tb [] [] Tryz.f118 ps118 rs118
theorem call118 : CallOK Tryz.prog 118 (mkCall ps118 rs118 (F118)) :=
  runFn_ok mixed tabOK (Δ := []) trivial ⟨Tryz.func118, rfl, by kernel_rfl, by kernel_rfl, by kernel_rfl, by kernel_rfl⟩ rfl (loopsAt_zip (Λ := []) (cs := []) (by kernel_rfl) (by kernel_rfl) (by kernel_rfl) trivial)
/-! 81 bowline/wide.parse -/
abbrev ps81 : List SV := [.d false tS]
abbrev rs81 : Shape := ⟨[(0, .d true tZ)], []⟩
abbrev sh81_4 : Shape := ⟨[(2, .pt 0 0), (5, .pt 1 0)], [.box 85 [.d false .bool, .d false tN], .box 85 [.d false .bool, .rf 2], .row tU 102]⟩
abbrev w81_4 : List Way := []
noncomputable def S81_4 (F90 : (SV.denL ps90) → Option (rs90).den) : El142 → sh81_4.den → Option (sh81_4.den ⊕ denX w81_4) := roundFn tb [(90, mkCall ps90 rs90 F90)] [] (upTo 33) Tryz.f81 4 avs142 [(6, 18)] sh81_4 w81_4
noncomputable def F81 (F88 : (SV.denL ps88) → Option (rs88).den) (F115 : (SV.denL ps115) → Option (rs115).den) (F118 : (SV.denL ps118) → Option (rs118).den) (D142 : Dt142) (g81_4 : List El142 → sh81_4.den → Option (sh81_4.den ⊕ denX w81_4)) : (SV.denL ps81) → Option (rs81).den := runFn tb [(88, mkCall ps88 rs88 F88), (115, mkCall ps115 rs115 F115), (118, mkCall ps118 rs118 F118)] [(4, rangeO (rgG Tryz.f81 4) 142 (cap142 D142) sh81_4 w81_4 g81_4)] Tryz.f81 ps81 rs81
theorem call81 {F115 : (SV.denL ps115) → Option (rs115).den} {F118 : (SV.denL ps118) → Option (rs118).den} {F88 : (SV.denL ps88) → Option (rs88).den} {F90 : (SV.denL ps90) → Option (rs90).den} {g81_4 : List El142 → sh81_4.den → Option (sh81_4.den ⊕ denX w81_4)} {D142 : Dt142} (it142 : IterOK Tryz.prog 142 encs142 (cap142 D142)) (h115 : CallOK Tryz.prog 115 (mkCall ps115 rs115 F115)) (h118 : CallOK Tryz.prog 118 (mkCall ps118 rs118 F118)) (h88 : CallOK Tryz.prog 88 (mkCall ps88 rs88 F88)) (h90 : CallOK Tryz.prog 90 (mkCall ps90 rs90 F90)) (hg81_4 : foldR (S81_4 F90) = g81_4) : CallOK Tryz.prog 81 (mkCall ps81 rs81 (F81 F88 F115 F118 D142 g81_4)) :=
  runFn_ok mixed tabOK (Δ := [(88, mkCall ps88 rs88 F88), (115, mkCall ps115 rs115 F115), (118, mkCall ps118 rs118 F118)]) ⟨.inl h88, .inl h115, .inl h118, trivial⟩ ⟨Tryz.func81, rfl, by kernel_rfl, by kernel_rfl, by kernel_rfl, by kernel_rfl⟩ rfl (loopsAt_zip (cs := [.rangeFunc (rgG Tryz.f81 4) (rgP Tryz.f81 4) (rgA Tryz.f81 4) (rgB Tryz.f81 4)]) (by kernel_rfl) (by kernel_rfl) (by kernel_rfl) ⟨by rw [← hg81_4]; exact roundFn_ok mixed tabOK (Δ := [(90, mkCall ps90 rs90 F90)]) ⟨.inl h90, trivial⟩ it142 ⟨by kernel_rfl, rel142, fun _ => rfl, by kernel_rfl, by kernel_rfl, by kernel_rfl, by kernel_rfl⟩ (loopsAt_zip (Λ := []) (cs := []) (by kernel_rfl) (by kernel_rfl) (by kernel_rfl) trivial), trivial⟩)
/-! 47 bowline/wide.number -/
abbrev ps47 : List SV := [.d false tS, .d false tS]
abbrev rs47 : Shape := ⟨[(0, .d true (.pr tI .bool)), (1, .d true tZ), (2, .d false tI)], []⟩
noncomputable def F47 (F41 : (SV.denL ps41) → Option (rs41).den) (F42 : (SV.denL ps42) → Option (rs42).den) (F55 : (SV.denL ps55) → Option (rs55).den) (F81 : (SV.denL ps81) → Option (rs81).den) : (SV.denL ps47) → Option (rs47).den := runFn tb [(41, mkCall ps41 rs41 F41), (42, mkCall ps42 rs42 F42), (55, mkCall ps55 rs55 F55), (81, mkCall ps81 rs81 F81)] [] Tryz.f47 ps47 rs47
theorem call47 {F41 : (SV.denL ps41) → Option (rs41).den} {F42 : (SV.denL ps42) → Option (rs42).den} {F55 : (SV.denL ps55) → Option (rs55).den} {F81 : (SV.denL ps81) → Option (rs81).den} (h41 : CallOK Tryz.prog 41 (mkCall ps41 rs41 F41)) (h42 : CallOK Tryz.prog 42 (mkCall ps42 rs42 F42)) (h55 : CallOK Tryz.prog 55 (mkCall ps55 rs55 F55)) (h81 : CallOK Tryz.prog 81 (mkCall ps81 rs81 F81)) : CallOK Tryz.prog 47 (mkCall ps47 rs47 (F47 F41 F42 F55 F81)) :=
  runFn_ok mixed tabOK (Δ := [(41, mkCall ps41 rs41 F41), (42, mkCall ps42 rs42 F42), (55, mkCall ps55 rs55 F55), (81, mkCall ps81 rs81 F81)]) ⟨.inl h41, .inl h42, .inl h55, .inl h81, trivial⟩ ⟨Tryz.func47, rfl, by kernel_rfl, by kernel_rfl, by kernel_rfl, by kernel_rfl⟩ rfl (loopsAt_zip (Λ := []) (cs := []) (by kernel_rfl) (by kernel_rfl) (by kernel_rfl) trivial)
/-! 148 cmp.isNaN[int] -/
abbrev ps148 : List SV := [.d false tI]
abbrev rs148 : Shape := ⟨[(0, .d false .bool)], []⟩
noncomputable def F148 : (SV.denL ps148) → Option (rs148).den := runFn tb [] [] Tryz.f148 ps148 rs148
theorem call148 : CallOK Tryz.prog 148 (mkCall ps148 rs148 (F148)) :=
  runFn_ok mixed tabOK (Δ := []) trivial ⟨Tryz.func148, rfl, by kernel_rfl, by kernel_rfl, by kernel_rfl, by kernel_rfl⟩ rfl (loopsAt_zip (Λ := []) (cs := []) (by kernel_rfl) (by kernel_rfl) (by kernel_rfl) trivial)
/-! 123 cmp.Compare[int] -/
abbrev ps123 : List SV := [.d false tI, .d false tI]
abbrev rs123 : Shape := ⟨[(0, .d false tI)], []⟩
noncomputable def F123 (F148 : (SV.denL ps148) → Option (rs148).den) : (SV.denL ps123) → Option (rs123).den := runFn tb [(148, mkCall ps148 rs148 F148)] [] Tryz.f123 ps123 rs123
theorem call123 {F148 : (SV.denL ps148) → Option (rs148).den} (h148 : CallOK Tryz.prog 148 (mkCall ps148 rs148 F148)) : CallOK Tryz.prog 123 (mkCall ps123 rs123 (F123 F148)) :=
  runFn_ok mixed tabOK (Δ := [(148, mkCall ps148 rs148 F148)]) ⟨.inl h148, trivial⟩ ⟨Tryz.func123, rfl, by kernel_rfl, by kernel_rfl, by kernel_rfl, by kernel_rfl⟩ rfl (loopsAt_zip (Λ := []) (cs := []) (by kernel_rfl) (by kernel_rfl) (by kernel_rfl) trivial)
/-! 149 cmp.isNaN[uint32] -/
abbrev ps149 : List SV := [.d false tU]
abbrev rs149 : Shape := ⟨[(0, .d false .bool)], []⟩
noncomputable def F149 : (SV.denL ps149) → Option (rs149).den := runFn tb [] [] Tryz.f149 ps149 rs149
theorem call149 : CallOK Tryz.prog 149 (mkCall ps149 rs149 (F149)) :=
  runFn_ok mixed tabOK (Δ := []) trivial ⟨Tryz.func149, rfl, by kernel_rfl, by kernel_rfl, by kernel_rfl, by kernel_rfl⟩ rfl (loopsAt_zip (Λ := []) (cs := []) (by kernel_rfl) (by kernel_rfl) (by kernel_rfl) trivial)
/-! 124 cmp.Compare[uint32] -/
abbrev ps124 : List SV := [.d false tU, .d false tU]
abbrev rs124 : Shape := ⟨[(0, .d false tI)], []⟩
noncomputable def F124 (F149 : (SV.denL ps149) → Option (rs149).den) : (SV.denL ps124) → Option (rs124).den := runFn tb [(149, mkCall ps149 rs149 F149)] [] Tryz.f124 ps124 rs124
theorem call124 {F149 : (SV.denL ps149) → Option (rs149).den} (h149 : CallOK Tryz.prog 149 (mkCall ps149 rs149 F149)) : CallOK Tryz.prog 124 (mkCall ps124 rs124 (F124 F149)) :=
  runFn_ok mixed tabOK (Δ := [(149, mkCall ps149 rs149 F149)]) ⟨.inl h149, trivial⟩ ⟨Tryz.func124, rfl, by kernel_rfl, by kernel_rfl, by kernel_rfl, by kernel_rfl⟩ rfl (loopsAt_zip (Λ := []) (cs := []) (by kernel_rfl) (by kernel_rfl) (by kernel_rfl) trivial)
/-! 94 bowline/wide.compareSizes -/
abbrev ps94 : List SV := [.d false tN, .d false tN]
abbrev rs94 : Shape := ⟨[(0, .d false tI)], []⟩
abbrev sh94_5 : Shape := ⟨[(0, .d false tN), (1, .d false tN), (6, .d false tI)], []⟩
abbrev w94_5 : List Way := [(none, ⟨[(4, .d false tI)], []⟩), (some 0, ⟨[], []⟩)]
noncomputable def S94_5 (F124 : (SV.denL ps124) → Option (rs124).den) : sh94_5.den → Option (sh94_5.den ⊕ denX w94_5) := stepFn tb [(124, mkCall ps124 rs124 F124)] [] (upTo 35) Tryz.f94 5 sh94_5 w94_5
noncomputable def F94 (F123 : (SV.denL ps123) → Option (rs123).den) (g94_5 : sh94_5.den → Option (denX w94_5)) : (SV.denL ps94) → Option (rs94).den := runFn tb [(123, mkCall ps123 rs123 F123)] [(5, lp sh94_5 w94_5 g94_5)] Tryz.f94 ps94 rs94
theorem call94 {F123 : (SV.denL ps123) → Option (rs123).den} {F124 : (SV.denL ps124) → Option (rs124).den} {g94_5 : sh94_5.den → Option (denX w94_5)} (h123 : CallOK Tryz.prog 123 (mkCall ps123 rs123 F123)) (h124 : CallOK Tryz.prog 124 (mkCall ps124 rs124 F124)) (hg94_5 : Lim (S94_5 F124) g94_5) : CallOK Tryz.prog 94 (mkCall ps94 rs94 (F94 F123 g94_5)) :=
  runFn_ok mixed tabOK (Δ := [(123, mkCall ps123 rs123 F123)]) ⟨.inl h123, trivial⟩ ⟨Tryz.func94, rfl, by kernel_rfl, by kernel_rfl, by kernel_rfl, by kernel_rfl⟩ rfl (loopsAt_zip (cs := [.loop (loopOf Tryz.f94 5)]) (by kernel_rfl) (by kernel_rfl) (by kernel_rfl) ⟨stepLim_ok mixed tabOK (Δ := [(124, mkCall ps124 rs124 F124)]) ⟨.inl h124, trivial⟩ hg94_5 (loopsAt_zip (Λ := []) (cs := []) (by kernel_rfl) (by kernel_rfl) (by kernel_rfl) trivial), trivial⟩)
/-! 49 (bowline/wide.exact).compare -/
abbrev ps49 : List SV := [.d true tZ, .d true tZ]
abbrev rs49 : Shape := ⟨[(0, .d false tI)], []⟩
noncomputable def F49 (F94 : (SV.denL ps94) → Option (rs94).den) : (SV.denL ps49) → Option (rs49).den := runFn tb [(94, mkCall ps94 rs94 F94)] [] Tryz.f49 ps49 rs49
theorem call49 {F94 : (SV.denL ps94) → Option (rs94).den} (h94 : CallOK Tryz.prog 94 (mkCall ps94 rs94 F94)) : CallOK Tryz.prog 49 (mkCall ps49 rs49 (F49 F94)) :=
  runFn_ok mixed tabOK (Δ := [(94, mkCall ps94 rs94 F94)]) ⟨.inl h94, trivial⟩ ⟨Tryz.func49, rfl, by kernel_rfl, by kernel_rfl, by kernel_rfl, by kernel_rfl⟩ rfl (loopsAt_zip (Λ := []) (cs := []) (by kernel_rfl) (by kernel_rfl) (by kernel_rfl) trivial)
/-! 48 (bowline/wide.integer).nearest -/
abbrev ps48 : List SV := [.d true (.pr tI .bool), .d true tZ]
abbrev rs48 : Shape := ⟨[(0, .d true tZ)], []⟩
noncomputable def F48 (F44 : (SV.denL ps44) → Option (rs44).den) (F49 : (SV.denL ps49) → Option (rs49).den) (F81 : (SV.denL ps81) → Option (rs81).den) : (SV.denL ps48) → Option (rs48).den := runFn tb [(44, mkCall ps44 rs44 F44), (49, mkCall ps49 rs49 F49), (81, mkCall ps81 rs81 F81)] [] Tryz.f48 ps48 rs48
theorem call48 {F44 : (SV.denL ps44) → Option (rs44).den} {F49 : (SV.denL ps49) → Option (rs49).den} {F81 : (SV.denL ps81) → Option (rs81).den} (h44 : CallOK Tryz.prog 44 (mkCall ps44 rs44 F44)) (h49 : CallOK Tryz.prog 49 (mkCall ps49 rs49 F49)) (h81 : CallOK Tryz.prog 81 (mkCall ps81 rs81 F81)) : CallOK Tryz.prog 48 (mkCall ps48 rs48 (F48 F44 F49 F81)) :=
  runFn_ok mixed tabOK (Δ := [(44, mkCall ps44 rs44 F44), (49, mkCall ps49 rs49 F49), (81, mkCall ps81 rs81 F81)]) ⟨.inl h44, .inl h49, .inl h81, trivial⟩ ⟨Tryz.func48, rfl, by kernel_rfl, by kernel_rfl, by kernel_rfl, by kernel_rfl⟩ rfl (loopsAt_zip (Λ := []) (cs := []) (by kernel_rfl) (by kernel_rfl) (by kernel_rfl) trivial)
/-! 95 slices.Backward[[]uint32,uint32] -/
abbrev ps95 : List SV := [.d false tN]
abbrev rs95 : Shape := ⟨[(0, .fn 125 [.pt 0 0])], [.box 83 [.d false tN]]⟩
noncomputable def F95 : (SV.denL ps95) → Option (rs95).den := runFn tb [] [] Tryz.f95 ps95 rs95
theorem call95 : CallOK Tryz.prog 95 (mkCall ps95 rs95 (F95)) :=
  runFn_ok mixed tabOK (Δ := []) trivial ⟨Tryz.func95, rfl, by kernel_rfl, by kernel_rfl, by kernel_rfl, by kernel_rfl⟩ rfl (loopsAt_zip (Λ := []) (cs := []) (by kernel_rfl) (by kernel_rfl) (by kernel_rfl) trivial)
/-! 50 (bowline/wide.integer).wrapped -/
abbrev ps50 : List SV := [.d true (.pr tI .bool), .d true tZ]
abbrev rs50 : Shape := ⟨[(0, .d false (.int .u64))], []⟩
abbrev sh50_3 : Shape := ⟨[(2, .pt 0 0), (3, .pt 1 0), (5, .pt 2 0)], [.box 68 [.d false tI, .d false .bool], .box 85 [.d false .bool, .d false tN], .box 36 [.d false (.int .u64)]]⟩
abbrev w50_3 : List Way := []
noncomputable def S50_3 : El125 → sh50_3.den → Option (sh50_3.den ⊕ denX w50_3) := roundFn tb [] [] (upTo 27) Tryz.f50 3 avs125 [(7, 12)] sh50_3 w50_3
noncomputable def F50 (F57 : (SV.denL ps57) → Option (rs57).den) (F95 : (SV.denL ps95) → Option (rs95).den) (D125 : Dt125) (g50_3 : List El125 → sh50_3.den → Option (sh50_3.den ⊕ denX w50_3)) : (SV.denL ps50) → Option (rs50).den := runFn tb [(57, mkCall ps57 rs57 F57), (95, mkCall ps95 rs95 F95)] [(3, rangeO (rgG Tryz.f50 3) 125 (cap125 D125) sh50_3 w50_3 g50_3)] Tryz.f50 ps50 rs50
theorem call50 {F57 : (SV.denL ps57) → Option (rs57).den} {F95 : (SV.denL ps95) → Option (rs95).den} {g50_3 : List El125 → sh50_3.den → Option (sh50_3.den ⊕ denX w50_3)} {D125 : Dt125} (it125 : IterOK Tryz.prog 125 encs125 (cap125 D125)) (h57 : CallOK Tryz.prog 57 (mkCall ps57 rs57 F57)) (h95 : CallOK Tryz.prog 95 (mkCall ps95 rs95 F95)) (hg50_3 : foldR (S50_3) = g50_3) : CallOK Tryz.prog 50 (mkCall ps50 rs50 (F50 F57 F95 D125 g50_3)) :=
  runFn_ok mixed tabOK (Δ := [(57, mkCall ps57 rs57 F57), (95, mkCall ps95 rs95 F95)]) ⟨.inl h57, .inl h95, trivial⟩ ⟨Tryz.func50, rfl, by kernel_rfl, by kernel_rfl, by kernel_rfl, by kernel_rfl⟩ rfl (loopsAt_zip (cs := [.rangeFunc (rgG Tryz.f50 3) (rgP Tryz.f50 3) (rgA Tryz.f50 3) (rgB Tryz.f50 3)]) (by kernel_rfl) (by kernel_rfl) (by kernel_rfl) ⟨by rw [← hg50_3]; exact roundFn_ok mixed tabOK (Δ := []) trivial it125 ⟨by kernel_rfl, rel125, fun _ => rfl, by kernel_rfl, by kernel_rfl, by kernel_rfl, by kernel_rfl⟩ (loopsAt_zip (Λ := []) (cs := []) (by kernel_rfl) (by kernel_rfl) (by kernel_rfl) trivial), trivial⟩)
/-! 17 bowline/wide.FromInt -/
abbrev ps17 : List SV := [.d false tS, .d false tS]
abbrev rs17 : Shape := ⟨[(0, .d false (.int .u64)), (1, .d false tI)], []⟩
noncomputable def F17 (F47 : (SV.denL ps47) → Option (rs47).den) (F48 : (SV.denL ps48) → Option (rs48).den) (F49 : (SV.denL ps49) → Option (rs49).den) (F50 : (SV.denL ps50) → Option (rs50).den) : (SV.denL ps17) → Option (rs17).den := runFn tb [(47, mkCall ps47 rs47 F47), (48, mkCall ps48 rs48 F48), (49, mkCall ps49 rs49 F49), (50, mkCall ps50 rs50 F50)] [] Tryz.f17 ps17 rs17
theorem call17 {F47 : (SV.denL ps47) → Option (rs47).den} {F48 : (SV.denL ps48) → Option (rs48).den} {F49 : (SV.denL ps49) → Option (rs49).den} {F50 : (SV.denL ps50) → Option (rs50).den} (h47 : CallOK Tryz.prog 47 (mkCall ps47 rs47 F47)) (h48 : CallOK Tryz.prog 48 (mkCall ps48 rs48 F48)) (h49 : CallOK Tryz.prog 49 (mkCall ps49 rs49 F49)) (h50 : CallOK Tryz.prog 50 (mkCall ps50 rs50 F50)) : CallOK Tryz.prog 17 (mkCall ps17 rs17 (F17 F47 F48 F49 F50)) :=
  runFn_ok mixed tabOK (Δ := [(47, mkCall ps47 rs47 F47), (48, mkCall ps48 rs48 F48), (49, mkCall ps49 rs49 F49), (50, mkCall ps50 rs50 F50)]) ⟨.inl h47, .inl h48, .inl h49, .inl h50, trivial⟩ ⟨Tryz.func17, rfl, by kernel_rfl, by kernel_rfl, by kernel_rfl, by kernel_rfl⟩ rfl (loopsAt_zip (Λ := []) (cs := []) (by kernel_rfl) (by kernel_rfl) (by kernel_rfl) trivial)
/-! 19 bowline/wide.ToInt -/
abbrev ps19 : List SV := [.d false tS, .d false (.int .u64)]
abbrev rs19 : Shape := ⟨[(0, .d false tS), (1, .d false tI)], []⟩
noncomputable def F19 (F42 : (SV.denL ps42) → Option (rs42).den) (F55 : (SV.denL ps55) → Option (rs55).den) (F56 : (SV.denL ps56) → Option (rs56).den) (F57 : (SV.denL ps57) → Option (rs57).den) (F58 : (SV.denL ps58) → Option (rs58).den) : (SV.denL ps19) → Option (rs19).den := runFn tb [(42, mkCall ps42 rs42 F42), (55, mkCall ps55 rs55 F55), (56, mkCall ps56 rs56 F56), (57, mkCall ps57 rs57 F57), (58, mkCall ps58 rs58 F58)] [] Tryz.f19 ps19 rs19
theorem call19 {F42 : (SV.denL ps42) → Option (rs42).den} {F55 : (SV.denL ps55) → Option (rs55).den} {F56 : (SV.denL ps56) → Option (rs56).den} {F57 : (SV.denL ps57) → Option (rs57).den} {F58 : (SV.denL ps58) → Option (rs58).den} (h42 : CallOK Tryz.prog 42 (mkCall ps42 rs42 F42)) (h55 : CallOK Tryz.prog 55 (mkCall ps55 rs55 F55)) (h56 : CallOK Tryz.prog 56 (mkCall ps56 rs56 F56)) (h57 : CallOK Tryz.prog 57 (mkCall ps57 rs57 F57)) (h58 : CallOK Tryz.prog 58 (mkCall ps58 rs58 F58)) : CallOK Tryz.prog 19 (mkCall ps19 rs19 (F19 F42 F55 F56 F57 F58)) :=
  runFn_ok mixed tabOK (Δ := [(42, mkCall ps42 rs42 F42), (55, mkCall ps55 rs55 F55), (56, mkCall ps56 rs56 F56), (57, mkCall ps57 rs57 F57), (58, mkCall ps58 rs58 F58)]) ⟨.inl h42, .inl h55, .inl h56, .inl h57, .inl h58, trivial⟩ ⟨Tryz.func19, rfl, by kernel_rfl, by kernel_rfl, by kernel_rfl, by kernel_rfl⟩ rfl (loopsAt_zip (Λ := []) (cs := []) (by kernel_rfl) (by kernel_rfl) (by kernel_rfl) trivial)
/-! 21 bowline/wide.Wrap -/
abbrev ps21 : List SV := [.d false tS, .d false tS]
abbrev rs21 : Shape := ⟨[(0, .d false (.int .u64)), (1, .d false tI)], []⟩
noncomputable def F21 (F47 : (SV.denL ps47) → Option (rs47).den) (F50 : (SV.denL ps50) → Option (rs50).den) : (SV.denL ps21) → Option (rs21).den := runFn tb [(47, mkCall ps47 rs47 F47), (50, mkCall ps50 rs50 F50)] [] Tryz.f21 ps21 rs21
theorem call21 {F47 : (SV.denL ps47) → Option (rs47).den} {F50 : (SV.denL ps50) → Option (rs50).den} (h47 : CallOK Tryz.prog 47 (mkCall ps47 rs47 F47)) (h50 : CallOK Tryz.prog 50 (mkCall ps50 rs50 F50)) : CallOK Tryz.prog 21 (mkCall ps21 rs21 (F21 F47 F50)) :=
  runFn_ok mixed tabOK (Δ := [(47, mkCall ps47 rs47 F47), (50, mkCall ps50 rs50 F50)]) ⟨.inl h47, .inl h50, trivial⟩ ⟨Tryz.func21, rfl, by kernel_rfl, by kernel_rfl, by kernel_rfl, by kernel_rfl⟩ rfl (loopsAt_zip (Λ := []) (cs := []) (by kernel_rfl) (by kernel_rfl) (by kernel_rfl) trivial)
/-! 23 bowline/wide.Saturate -/
abbrev ps23 : List SV := [.d false tS, .d false tS]
abbrev rs23 : Shape := ⟨[(0, .d false (.int .u64)), (1, .d false tI)], []⟩
noncomputable def F23 (F47 : (SV.denL ps47) → Option (rs47).den) (F48 : (SV.denL ps48) → Option (rs48).den) (F50 : (SV.denL ps50) → Option (rs50).den) : (SV.denL ps23) → Option (rs23).den := runFn tb [(47, mkCall ps47 rs47 F47), (48, mkCall ps48 rs48 F48), (50, mkCall ps50 rs50 F50)] [] Tryz.f23 ps23 rs23
theorem call23 {F47 : (SV.denL ps47) → Option (rs47).den} {F48 : (SV.denL ps48) → Option (rs48).den} {F50 : (SV.denL ps50) → Option (rs50).den} (h47 : CallOK Tryz.prog 47 (mkCall ps47 rs47 F47)) (h48 : CallOK Tryz.prog 48 (mkCall ps48 rs48 F48)) (h50 : CallOK Tryz.prog 50 (mkCall ps50 rs50 F50)) : CallOK Tryz.prog 23 (mkCall ps23 rs23 (F23 F47 F48 F50)) :=
  runFn_ok mixed tabOK (Δ := [(47, mkCall ps47 rs47 F47), (48, mkCall ps48 rs48 F48), (50, mkCall ps50 rs50 F50)]) ⟨.inl h47, .inl h48, .inl h50, trivial⟩ ⟨Tryz.func23, rfl, by kernel_rfl, by kernel_rfl, by kernel_rfl, by kernel_rfl⟩ rfl (loopsAt_zip (Λ := []) (cs := []) (by kernel_rfl) (by kernel_rfl) (by kernel_rfl) trivial)
/-! 200 bowline/wide.decimal -/
abbrev ps200 : List SV := [.d false (.int .i32)]
abbrev rs200 : Shape := ⟨[(0, .d false tI)], []⟩
noncomputable def F200 : (SV.denL ps200) → Option (rs200).den := runFn tb [] [] Tryz.f200 ps200 rs200
theorem call200 : CallOK Tryz.prog 200 (mkCall ps200 rs200 (F200)) :=
  runFn_ok mixed tabOK (Δ := []) trivial ⟨Tryz.func200, rfl, by kernel_rfl, by kernel_rfl, by kernel_rfl, by kernel_rfl⟩ rfl (loopsAt_zip (Λ := []) (cs := []) (by kernel_rfl) (by kernel_rfl) (by kernel_rfl) trivial)
/-! 199 bowline/wide.hexadecimal -/
abbrev ps199 : List SV := [.d false (.int .i32)]
abbrev rs199 : Shape := ⟨[(0, .d false tI)], []⟩
noncomputable def F199 (F200 : (SV.denL ps200) → Option (rs200).den) : (SV.denL ps199) → Option (rs199).den := runFn tb [(200, mkCall ps200 rs200 F200)] [] Tryz.f199 ps199 rs199
theorem call199 {F200 : (SV.denL ps200) → Option (rs200).den} (h200 : CallOK Tryz.prog 200 (mkCall ps200 rs200 F200)) : CallOK Tryz.prog 199 (mkCall ps199 rs199 (F199 F200)) :=
  runFn_ok mixed tabOK (Δ := [(200, mkCall ps200 rs200 F200)]) ⟨.inl h200, trivial⟩ ⟨Tryz.func199, rfl, by kernel_rfl, by kernel_rfl, by kernel_rfl, by kernel_rfl⟩ rfl (loopsAt_zip (Λ := []) (cs := []) (by kernel_rfl) (by kernel_rfl) (by kernel_rfl) trivial)
/-! 64 (bowline/wide.radix).digits -/
abbrev ps64 : List SV := [.d true (.pr tS (.pr tU .fv)), .d false tS]
abbrev rs64 : Shape := ⟨[(0, .d false tN), (1, .d false .bool)], []⟩
abbrev sh64_4 : Shape := ⟨[(1, .d false tS), (2, .pt 0 0), (6, .rf 1), (7, .d false (.int .i32)), (12, .pt 2 0)], [.box 105 [.d false tS, .d false tU, .d false .fv], .row tU 102, .it]⟩
abbrev w64_4 : List Way := [(none, ⟨[(4, .d false tN), (5, .d false .bool)], []⟩), (some 0, ⟨[(1, .d false tS), (2, .pt 0 0), (6, .rf 1), (7, .d false (.int .i32))], [.box 105 [.d false tS, .d false tU, .d false .fv], .row tU 102]⟩)]
noncomputable def S64_4 (F199 : (SV.denL ps199) → Option (rs199).den) (F200 : (SV.denL ps200) → Option (rs200).den) : sh64_4.den → Option (sh64_4.den ⊕ denX w64_4) := stepFn tb [(199, mkCall ps199 rs199 F199), (200, mkCall ps200 rs200 F200)] [] (upTo 60) Tryz.f64 4 sh64_4 w64_4
noncomputable def F64 (g64_4 : sh64_4.den → Option (denX w64_4)) : (SV.denL ps64) → Option (rs64).den := runFn tb [] [(4, lp sh64_4 w64_4 g64_4)] Tryz.f64 ps64 rs64
theorem call64 {F199 : (SV.denL ps199) → Option (rs199).den} {F200 : (SV.denL ps200) → Option (rs200).den} {g64_4 : sh64_4.den → Option (denX w64_4)} (h199 : CallOK Tryz.prog 199 (mkCall ps199 rs199 F199)) (h200 : CallOK Tryz.prog 200 (mkCall ps200 rs200 F200)) (hg64_4 : Lim (S64_4 F199 F200) g64_4) : CallOK Tryz.prog 64 (mkCall ps64 rs64 (F64 g64_4)) :=
  runFn_ok mixed tabOK (Δ := []) trivial ⟨Tryz.func64, rfl, by kernel_rfl, by kernel_rfl, by kernel_rfl, by kernel_rfl⟩ rfl (loopsAt_zip (cs := [.loop (loopOf Tryz.f64 4)]) (by kernel_rfl) (by kernel_rfl) (by kernel_rfl) ⟨stepLim_ok mixed tabOK (Δ := [(199, mkCall ps199 rs199 F199), (200, mkCall ps200 rs200 F200)]) ⟨.inl h199, .inl h200, trivial⟩ hg64_4 (loopsAt_zip (Λ := []) (cs := []) (by kernel_rfl) (by kernel_rfl) (by kernel_rfl) trivial), trivial⟩)
/-! 103 (bowline/wide.exact).written$1 -/
abbrev ps103 : List SV := [.d false tU]
abbrev rs103 : Shape := ⟨[(0, .d false tS)], []⟩
noncomputable def F103 (F104 : (SV.denL ps104) → Option (rs104).den) (F105 : (SV.denL ps105) → Option (rs105).den) : (SV.denL ps103) → Option (rs103).den := runFn tb [(104, mkCall ps104 rs104 F104), (105, mkCall ps105 rs105 F105)] [] Tryz.f103 ps103 rs103
theorem call103 {F104 : (SV.denL ps104) → Option (rs104).den} {F105 : (SV.denL ps105) → Option (rs105).den} (h104 : CallOK Tryz.prog 104 (mkCall ps104 rs104 F104)) (h105 : CallOK Tryz.prog 105 (mkCall ps105 rs105 F105)) : CallOK Tryz.prog 103 (mkCall ps103 rs103 (F103 F104 F105)) :=
  runFn_ok mixed tabOK (Δ := [(104, mkCall ps104 rs104 F104), (105, mkCall ps105 rs105 F105)]) ⟨.inl h104, .inl h105, trivial⟩ ⟨Tryz.func103, rfl, by kernel_rfl, by kernel_rfl, by kernel_rfl, by kernel_rfl⟩ rfl (loopsAt_zip (Λ := []) (cs := []) (by kernel_rfl) (by kernel_rfl) (by kernel_rfl) trivial)
/-! 102 bowline/wide.mapped[uint32,string] -/
abbrev ps102 : List SV := [.d false tN, .d false .fv]
abbrev rs102 : Shape := ⟨[(0, .rf 0)], [.row tS 9]⟩
abbrev sh102_3 : Shape := ⟨[(0, .d false tN), (1, .d false .fv), (5, .rf 0), (11, .d false tI), (12, .d false tI)], [.row tS 9]⟩
abbrev w102_3 : List Way := [(some 0, ⟨[(5, .rf 0)], [.row tS 9]⟩)]
noncomputable def S102_3 (F103 : (SV.denL ps103) → Option (rs103).den) : sh102_3.den → Option (sh102_3.den ⊕ denX w102_3) := stepFn tb [(103, mkCall ps103 rs103 F103)] [] (upTo 26) Tryz.f102 3 sh102_3 w102_3
noncomputable def F102 (g102_3 : sh102_3.den → Option (denX w102_3)) : (SV.denL ps102) → Option (rs102).den := runFn tb [] [(3, lp sh102_3 w102_3 g102_3)] Tryz.f102 ps102 rs102
theorem call102 {F103 : (SV.denL ps103) → Option (rs103).den} {g102_3 : sh102_3.den → Option (denX w102_3)} (h103 : CallOK Tryz.prog 103 (mkCall ps103 rs103 F103)) (hg102_3 : Lim (S102_3 F103) g102_3) : CallOK Tryz.prog 102 (mkCall ps102 rs102 (F102 g102_3)) :=
  runFn_ok mixed tabOK (Δ := []) trivial ⟨Tryz.func102, rfl, by kernel_rfl, by kernel_rfl, by kernel_rfl, by kernel_rfl⟩ rfl (loopsAt_zip (cs := [.loop (loopOf Tryz.f102 3)]) (by kernel_rfl) (by kernel_rfl) (by kernel_rfl) ⟨stepLim_ok mixed tabOK (Δ := [(103, mkCall ps103 rs103 F103)]) ⟨.inl h103, trivial⟩ hg102_3 (loopsAt_zip (Λ := []) (cs := []) (by kernel_rfl) (by kernel_rfl) (by kernel_rfl) trivial), trivial⟩)
/-! 106 slices.Reverse[[]string,string] -/
abbrev psh106 : Shape := ⟨[(0, .rf 0)], [.row tS 9]⟩
abbrev m106 : List Nat := [0]
abbrev rs106 : Shape := ⟨[(0, .rf 0)], [.row tS 9]⟩
abbrev sh106_1 : Shape := ⟨[(0, .rf 0), (2, .d false tI), (3, .d false tI)], [.row tS 9]⟩
abbrev w106_1 : List Way := [(some 0, ⟨[(0, .rf 0)], [.row tS 9]⟩)]
noncomputable def S106_1 : sh106_1.den → Option (sh106_1.den ⊕ denX w106_1) := stepFn tb [] [] (roundOk (upTo 28) (rangeN 0 1)) Tryz.f106 1 sh106_1 w106_1
noncomputable def F106 (g106_1 : sh106_1.den → Option (denX w106_1)) : (psh106.den) → Option (rs106).den := runFnB tb [] [(1, lp sh106_1 w106_1 g106_1)] Tryz.f106 psh106 rs106 1
theorem call106 {g106_1 : sh106_1.den → Option (denX w106_1)} (hg106_1 : Lim (S106_1) g106_1) : CallOK Tryz.prog 106 (mkCallB psh106 rs106 m106 1 (F106 g106_1)) :=
  runFnB_ok mixed tabOK (Δ := []) trivial ⟨Tryz.func106, rfl, by kernel_rfl, by kernel_rfl, by kernel_rfl, by kernel_rfl, by kernel_rfl, by kernel_rfl, by kernel_rfl, by kernel_rfl, by kernel_rfl⟩ rfl (loopsAt_zip (cs := [.loop (loopOf Tryz.f106 1)]) (by kernel_rfl) (by kernel_rfl) (by kernel_rfl) ⟨stepLim_ok mixed tabOK (Δ := []) trivial hg106_1 (loopsAt_zip (Λ := []) (cs := []) (by kernel_rfl) (by kernel_rfl) (by kernel_rfl) trivial), trivial⟩)
/-! 136 strings.trimLeftByte -/
abbrev ps136 : List SV := [.d false tS, .d false (.int .u8)]
abbrev rs136 : Shape := ⟨[(0, .d false tS)], []⟩
abbrev sh136_1 : Shape := ⟨[(0, .d false tS), (1, .d false (.int .u8))], []⟩
abbrev w136_1 : List Way := [(some 0, ⟨[(0, .d false tS)], []⟩)]
noncomputable def S136_1 : sh136_1.den → Option (sh136_1.den ⊕ denX w136_1) := stepFn tb [] [] (upTo 17) Tryz.f136 1 sh136_1 w136_1
noncomputable def F136 (g136_1 : sh136_1.den → Option (denX w136_1)) : (SV.denL ps136) → Option (rs136).den := runFn tb [] [(1, lp sh136_1 w136_1 g136_1)] Tryz.f136 ps136 rs136
theorem call136 {g136_1 : sh136_1.den → Option (denX w136_1)} (hg136_1 : Lim (S136_1) g136_1) : CallOK Tryz.prog 136 (mkCall ps136 rs136 (F136 g136_1)) :=
  runFn_ok mixed tabOK (Δ := []) trivial ⟨Tryz.func136, rfl, by kernel_rfl, by kernel_rfl, by kernel_rfl, by kernel_rfl⟩ rfl (loopsAt_zip (cs := [.loop (loopOf Tryz.f136 1)]) (by kernel_rfl) (by kernel_rfl) (by kernel_rfl) ⟨stepLim_ok mixed tabOK (Δ := []) trivial hg136_1 (loopsAt_zip (Λ := []) (cs := []) (by kernel_rfl) (by kernel_rfl) (by kernel_rfl) trivial), trivial⟩)
/-! 107 strings.TrimLeft -/
abbrev ps107 : List SV := [.d false tS, .d false tS]
abbrev rs107 : Shape := ⟨[(0, .d false tS)], []⟩
noncomputable def F107 (F136 : (SV.denL ps136) → Option (rs136).den) : (SV.denL ps107) → Option (rs107).den := runFn tb [(136, mkCall ps136 rs136 F136)] [] Tryz.f107 ps107 rs107
theorem call107 {F136 : (SV.denL ps136) → Option (rs136).den} (h136 : CallOK Tryz.prog 136 (mkCall ps136 rs136 F136)) : CallOK Tryz.prog 107 (mkCall ps107 rs107 (F107 F136)) :=
  runFn_ok mixed tabOK (Δ := [(136, mkCall ps136 rs136 F136)]) ⟨.inl h136, trivial⟩ ⟨Tryz.func107, rfl, by kernel_rfl, by kernel_rfl, by kernel_rfl, by kernel_rfl⟩ rfl (loopsAt_zip (Λ := []) (cs := []) (by kernel_rfl) (by kernel_rfl) (by kernel_rfl) trivial)
/-! 66 (bowline/wide.exact).written -/
abbrev ps66 : List SV := [.d true tZ]
abbrev rs66 : Shape := ⟨[(0, .d false tS), (1, .d false tI)], []⟩
noncomputable def F66 (F102 : (SV.denL ps102) → Option (rs102).den) (F106 : (psh106.den) → Option (rs106).den) (F107 : (SV.denL ps107) → Option (rs107).den) (F108 : (SV.denL ps108) → Option (rs108).den) : (SV.denL ps66) → Option (rs66).den := runFn tb [(102, mkCall ps102 rs102 F102), (106, mkCallB psh106 rs106 m106 1 F106), (107, mkCall ps107 rs107 F107), (108, mkCall ps108 rs108 F108)] [] Tryz.f66 ps66 rs66
theorem call66 {F102 : (SV.denL ps102) → Option (rs102).den} {F106 : (psh106.den) → Option (rs106).den} {F107 : (SV.denL ps107) → Option (rs107).den} {F108 : (SV.denL ps108) → Option (rs108).den} (h102 : CallOK Tryz.prog 102 (mkCall ps102 rs102 F102)) (h106 : CallOK Tryz.prog 106 (mkCallB psh106 rs106 m106 1 F106)) (h107 : CallOK Tryz.prog 107 (mkCall ps107 rs107 F107)) (h108 : CallOK Tryz.prog 108 (mkCall ps108 rs108 F108)) : CallOK Tryz.prog 66 (mkCall ps66 rs66 (F66 F102 F106 F107 F108)) :=
  runFn_ok mixed tabOK (Δ := [(102, mkCall ps102 rs102 F102), (106, mkCallB psh106 rs106 m106 1 F106), (107, mkCall ps107 rs107 F107), (108, mkCall ps108 rs108 F108)]) ⟨.inl h102, .inl h106, .inl h107, .inl h108, trivial⟩ ⟨Tryz.func66, rfl, by kernel_rfl, by kernel_rfl, by kernel_rfl, by kernel_rfl⟩ rfl (loopsAt_zip (Λ := []) (cs := []) (by kernel_rfl) (by kernel_rfl) (by kernel_rfl) trivial)
/-! 63 strings.HasPrefix -/
abbrev ps63 : List SV := [.d false tS, .d false tS]
abbrev rs63 : Shape := ⟨[(0, .d false .bool)], []⟩
noncomputable def F63 (F100 : (SV.denL ps100) → Option (rs100).den) : (SV.denL ps63) → Option (rs63).den := runFn tb [(100, mkCall ps100 rs100 F100)] [] Tryz.f63 ps63 rs63
theorem call63 {F100 : (SV.denL ps100) → Option (rs100).den} (h100 : CallOK Tryz.prog 100 (mkCall ps100 rs100 F100)) : CallOK Tryz.prog 63 (mkCall ps63 rs63 (F63 F100)) :=
  runFn_ok mixed tabOK (Δ := [(100, mkCall ps100 rs100 F100)]) ⟨.inl h100, trivial⟩ ⟨Tryz.func63, rfl, by kernel_rfl, by kernel_rfl, by kernel_rfl, by kernel_rfl⟩ rfl (loopsAt_zip (Λ := []) (cs := []) (by kernel_rfl) (by kernel_rfl) (by kernel_rfl) trivial)
/-! 65 bowline/wide.scaled -/
abbrev ps65 : List SV := [.d false tN, .d false tU, .d false tU]
abbrev rs65 : Shape := ⟨[(0, .d false tN)], []⟩
abbrev sh65_4 : Shape := ⟨[(1, .d false tU), (7, .rf 0), (8, .d false (.int .u64)), (19, .d false tN), (20, .d false tI), (21, .d false tI)], [.row tU 102]⟩
abbrev w65_4 : List Way := [(some 0, ⟨[(7, .rf 0), (8, .d false (.int .u64))], [.row tU 102]⟩)]
noncomputable def S65_4 : sh65_4.den → Option (sh65_4.den ⊕ denX w65_4) := stepFn tb [] [] (upTo 48) Tryz.f65 4 sh65_4 w65_4
noncomputable def F65 (F101 : (SV.denL ps101) → Option (rs101).den) (g65_4 : sh65_4.den → Option (denX w65_4)) : (SV.denL ps65) → Option (rs65).den := runFn tb [(101, mkCall ps101 rs101 F101)] [(4, lp sh65_4 w65_4 g65_4)] Tryz.f65 ps65 rs65
theorem call65 {F101 : (SV.denL ps101) → Option (rs101).den} {g65_4 : sh65_4.den → Option (denX w65_4)} (h101 : CallOK Tryz.prog 101 (mkCall ps101 rs101 F101)) (hg65_4 : Lim (S65_4) g65_4) : CallOK Tryz.prog 65 (mkCall ps65 rs65 (F65 F101 g65_4)) :=
  runFn_ok mixed tabOK (Δ := [(101, mkCall ps101 rs101 F101)]) ⟨.inl h101, trivial⟩ ⟨Tryz.func65, rfl, by kernel_rfl, by kernel_rfl, by kernel_rfl, by kernel_rfl⟩ rfl (loopsAt_zip (cs := [.loop (loopOf Tryz.f65 4)]) (by kernel_rfl) (by kernel_rfl) (by kernel_rfl) ⟨stepLim_ok mixed tabOK (Δ := []) trivial hg65_4 (loopsAt_zip (Λ := []) (cs := []) (by kernel_rfl) (by kernel_rfl) (by kernel_rfl) trivial), trivial⟩)
/-! 25 bowline/wide.Literal -/
abbrev ps25 : List SV := [.d false tS]
abbrev rs25 : Shape := ⟨[(0, .d false tS), (1, .d false tI)], []⟩
abbrev sh25_5 : Shape := ⟨[(0, .d false tS), (4, .pt 0 0), (16, .d true (.pr (.pr tS (.pr tU .fv)) (.pr (.pr tS (.pr tU .fv)) (.pr (.pr tS (.pr tU .fv)) (.pr tS (.pr tU .fv)))))), (17, .d false tI)], [.box 105 [.d false tS, .d false tU, .d false .fv]]⟩
abbrev w25_5 : List Way := [(some 0, ⟨[(0, .d false tS), (4, .pt 0 0)], [.box 105 [.d false tS, .d false tU, .d false .fv]]⟩)]
abbrev sh25_15 : Shape := ⟨[(4, .pt 0 0), (9, .pt 1 0), (38, .d false tN), (39, .d false tI), (40, .d false tI)], [.box 105 [.d false tS, .d false tU, .d false .fv], .box 85 [.d false .bool, .d false tN]]⟩
abbrev w25_15 : List Way := [(some 2, ⟨[(9, .pt 0 0)], [.box 85 [.d false .bool, .d false tN]]⟩)]
noncomputable def S25_5 (F63 : (SV.denL ps63) → Option (rs63).den) : sh25_5.den → Option (sh25_5.den ⊕ denX w25_5) := stepFn tb [(63, mkCall ps63 rs63 F63)] [] (upTo 56) Tryz.f25 5 sh25_5 w25_5
noncomputable def S25_15 (F65 : (SV.denL ps65) → Option (rs65).den) : sh25_15.den → Option (sh25_15.den ⊕ denX w25_15) := stepFn tb [(65, mkCall ps65 rs65 F65)] [] (upTo 56) Tryz.f25 15 sh25_15 w25_15
noncomputable def F25 (F64 : (SV.denL ps64) → Option (rs64).den) (F66 : (SV.denL ps66) → Option (rs66).den) (g25_5 : sh25_5.den → Option (denX w25_5)) (g25_15 : sh25_15.den → Option (denX w25_15)) : (SV.denL ps25) → Option (rs25).den := runFn tb [(64, mkCall ps64 rs64 F64), (66, mkCall ps66 rs66 F66)] [(5, lp sh25_5 w25_5 g25_5), (15, lp sh25_15 w25_15 g25_15)] Tryz.f25 ps25 rs25
theorem call25 {F63 : (SV.denL ps63) → Option (rs63).den} {F64 : (SV.denL ps64) → Option (rs64).den} {F65 : (SV.denL ps65) → Option (rs65).den} {F66 : (SV.denL ps66) → Option (rs66).den} {g25_5 : sh25_5.den → Option (denX w25_5)} {g25_15 : sh25_15.den → Option (denX w25_15)} (h63 : CallOK Tryz.prog 63 (mkCall ps63 rs63 F63)) (h64 : CallOK Tryz.prog 64 (mkCall ps64 rs64 F64)) (h65 : CallOK Tryz.prog 65 (mkCall ps65 rs65 F65)) (h66 : CallOK Tryz.prog 66 (mkCall ps66 rs66 F66)) (hg25_5 : Lim (S25_5 F63) g25_5) (hg25_15 : Lim (S25_15 F65) g25_15) : CallOK Tryz.prog 25 (mkCall ps25 rs25 (F25 F64 F66 g25_5 g25_15)) :=
  runFn_ok mixed tabOK (Δ := [(64, mkCall ps64 rs64 F64), (66, mkCall ps66 rs66 F66)]) ⟨.inl h64, .inl h66, trivial⟩ ⟨Tryz.func25, rfl, by kernel_rfl, by kernel_rfl, by kernel_rfl, by kernel_rfl⟩ rfl (loopsAt_zip (cs := [.loop (loopOf Tryz.f25 5), .loop (loopOf Tryz.f25 15)]) (by kernel_rfl) (by kernel_rfl) (by kernel_rfl) ⟨stepLim_ok mixed tabOK (Δ := [(63, mkCall ps63 rs63 F63)]) ⟨.inl h63, trivial⟩ hg25_5 (loopsAt_zip (Λ := []) (cs := []) (by kernel_rfl) (by kernel_rfl) (by kernel_rfl) trivial), stepLim_ok mixed tabOK (Δ := [(65, mkCall ps65 rs65 F65)]) ⟨.inl h65, trivial⟩ hg25_15 (loopsAt_zip (Λ := []) (cs := []) (by kernel_rfl) (by kernel_rfl) (by kernel_rfl) trivial), trivial⟩)
/-! 141 bowline/wide.limb -/
abbrev ps141 : List SV := [.d false tN, .d false tI]
abbrev rs141 : Shape := ⟨[(0, .d false (.int .u64))], []⟩
noncomputable def F141 : (SV.denL ps141) → Option (rs141).den := runFn tb [] [] Tryz.f141 ps141 rs141
theorem call141 : CallOK Tryz.prog 141 (mkCall ps141 rs141 (F141)) :=
  runFn_ok mixed tabOK (Δ := []) trivial ⟨Tryz.func141, rfl, by kernel_rfl, by kernel_rfl, by kernel_rfl, by kernel_rfl⟩ rfl (loopsAt_zip (Λ := []) (cs := []) (by kernel_rfl) (by kernel_rfl) (by kernel_rfl) trivial)
/-! 114 bowline/wide.sum -/
abbrev ps114 : List SV := [.d false tN, .d false tN]
abbrev rs114 : Shape := ⟨[(0, .d false tN)], []⟩
abbrev sh114_4 : Shape := ⟨[(0, .d false tN), (1, .d false tN), (5, .rf 0), (6, .d false (.int .u64)), (13, .d false tI), (14, .d false tI)], [.row tU 102]⟩
abbrev w114_4 : List Way := [(some 0, ⟨[(5, .rf 0)], [.row tU 102]⟩)]
noncomputable def S114_4 (F141 : (SV.denL ps141) → Option (rs141).den) : sh114_4.den → Option (sh114_4.den ⊕ denX w114_4) := stepFn tb [(141, mkCall ps141 rs141 F141)] [] (upTo 37) Tryz.f114 4 sh114_4 w114_4
noncomputable def F114 (F101 : (SV.denL ps101) → Option (rs101).den) (g114_4 : sh114_4.den → Option (denX w114_4)) : (SV.denL ps114) → Option (rs114).den := runFn tb [(101, mkCall ps101 rs101 F101)] [(4, lp sh114_4 w114_4 g114_4)] Tryz.f114 ps114 rs114
theorem call114 {F101 : (SV.denL ps101) → Option (rs101).den} {F141 : (SV.denL ps141) → Option (rs141).den} {g114_4 : sh114_4.den → Option (denX w114_4)} (h101 : CallOK Tryz.prog 101 (mkCall ps101 rs101 F101)) (h141 : CallOK Tryz.prog 141 (mkCall ps141 rs141 F141)) (hg114_4 : Lim (S114_4 F141) g114_4) : CallOK Tryz.prog 114 (mkCall ps114 rs114 (F114 F101 g114_4)) :=
  runFn_ok mixed tabOK (Δ := [(101, mkCall ps101 rs101 F101)]) ⟨.inl h101, trivial⟩ ⟨Tryz.func114, rfl, by kernel_rfl, by kernel_rfl, by kernel_rfl, by kernel_rfl⟩ rfl (loopsAt_zip (cs := [.loop (loopOf Tryz.f114 4)]) (by kernel_rfl) (by kernel_rfl) (by kernel_rfl) ⟨stepLim_ok mixed tabOK (Δ := [(141, mkCall ps141 rs141 F141)]) ⟨.inl h141, trivial⟩ hg114_4 (loopsAt_zip (Λ := []) (cs := []) (by kernel_rfl) (by kernel_rfl) (by kernel_rfl) trivial), trivial⟩)
/-! 116 bowline/wide.difference -/
abbrev ps116 : List SV := [.d false tN, .d false tN]
abbrev rs116 : Shape := ⟨[(0, .d false tN)], []⟩
abbrev sh116_5 : Shape := ⟨[(0, .d false tN), (1, .d false tN), (5, .rf 0), (6, .d false (.int .u64)), (16, .d false tI), (17, .d false tI)], [.row tU 102]⟩
abbrev w116_5 : List Way := [(some 0, ⟨[(5, .rf 0)], [.row tU 102]⟩)]
noncomputable def S116_5 (F141 : (SV.denL ps141) → Option (rs141).den) : sh116_5.den → Option (sh116_5.den ⊕ denX w116_5) := stepFn tb [(141, mkCall ps141 rs141 F141)] [] (upTo 42) Tryz.f116 5 sh116_5 w116_5
noncomputable def F116 (F101 : (SV.denL ps101) → Option (rs101).den) (g116_5 : sh116_5.den → Option (denX w116_5)) : (SV.denL ps116) → Option (rs116).den := runFn tb [(101, mkCall ps101 rs101 F101)] [(5, lp sh116_5 w116_5 g116_5)] Tryz.f116 ps116 rs116
theorem call116 {F101 : (SV.denL ps101) → Option (rs101).den} {F141 : (SV.denL ps141) → Option (rs141).den} {g116_5 : sh116_5.den → Option (denX w116_5)} (h101 : CallOK Tryz.prog 101 (mkCall ps101 rs101 F101)) (h141 : CallOK Tryz.prog 141 (mkCall ps141 rs141 F141)) (hg116_5 : Lim (S116_5 F141) g116_5) : CallOK Tryz.prog 116 (mkCall ps116 rs116 (F116 F101 g116_5)) :=
  runFn_ok mixed tabOK (Δ := [(101, mkCall ps101 rs101 F101)]) ⟨.inl h101, trivial⟩ ⟨Tryz.func116, rfl, by kernel_rfl, by kernel_rfl, by kernel_rfl, by kernel_rfl⟩ rfl (loopsAt_zip (cs := [.loop (loopOf Tryz.f116 5)]) (by kernel_rfl) (by kernel_rfl) (by kernel_rfl) ⟨stepLim_ok mixed tabOK (Δ := [(141, mkCall ps141 rs141 F141)]) ⟨.inl h141, trivial⟩ hg116_5 (loopsAt_zip (Λ := []) (cs := []) (by kernel_rfl) (by kernel_rfl) (by kernel_rfl) trivial), trivial⟩)
/-! 74 (bowline/wide.exact).plus -/
abbrev ps74 : List SV := [.d true tZ, .d true tZ]
abbrev rs74 : Shape := ⟨[(0, .d true tZ)], []⟩
noncomputable def F74 (F94 : (SV.denL ps94) → Option (rs94).den) (F114 : (SV.denL ps114) → Option (rs114).den) (F115 : (SV.denL ps115) → Option (rs115).den) (F116 : (SV.denL ps116) → Option (rs116).den) : (SV.denL ps74) → Option (rs74).den := runFn tb [(94, mkCall ps94 rs94 F94), (114, mkCall ps114 rs114 F114), (115, mkCall ps115 rs115 F115), (116, mkCall ps116 rs116 F116)] [] Tryz.f74 ps74 rs74
theorem call74 {F114 : (SV.denL ps114) → Option (rs114).den} {F115 : (SV.denL ps115) → Option (rs115).den} {F116 : (SV.denL ps116) → Option (rs116).den} {F94 : (SV.denL ps94) → Option (rs94).den} (h114 : CallOK Tryz.prog 114 (mkCall ps114 rs114 F114)) (h115 : CallOK Tryz.prog 115 (mkCall ps115 rs115 F115)) (h116 : CallOK Tryz.prog 116 (mkCall ps116 rs116 F116)) (h94 : CallOK Tryz.prog 94 (mkCall ps94 rs94 F94)) : CallOK Tryz.prog 74 (mkCall ps74 rs74 (F74 F94 F114 F115 F116)) :=
  runFn_ok mixed tabOK (Δ := [(94, mkCall ps94 rs94 F94), (114, mkCall ps114 rs114 F114), (115, mkCall ps115 rs115 F115), (116, mkCall ps116 rs116 F116)]) ⟨.inl h94, .inl h114, .inl h115, .inl h116, trivial⟩ ⟨Tryz.func74, rfl, by kernel_rfl, by kernel_rfl, by kernel_rfl, by kernel_rfl⟩ rfl (loopsAt_zip (Λ := []) (cs := []) (by kernel_rfl) (by kernel_rfl) (by kernel_rfl) trivial)
/-! 76 (bowline/wide.exact).negated -/
abbrev ps76 : List SV := [.d true tZ]
abbrev rs76 : Shape := ⟨[(0, .d true tZ)], []⟩
noncomputable def F76 (F115 : (SV.denL ps115) → Option (rs115).den) : (SV.denL ps76) → Option (rs76).den := runFn tb [(115, mkCall ps115 rs115 F115)] [] Tryz.f76 ps76 rs76
theorem call76 {F115 : (SV.denL ps115) → Option (rs115).den} (h115 : CallOK Tryz.prog 115 (mkCall ps115 rs115 F115)) : CallOK Tryz.prog 76 (mkCall ps76 rs76 (F76 F115)) :=
  runFn_ok mixed tabOK (Δ := [(115, mkCall ps115 rs115 F115)]) ⟨.inl h115, trivial⟩ ⟨Tryz.func76, rfl, by kernel_rfl, by kernel_rfl, by kernel_rfl, by kernel_rfl⟩ rfl (loopsAt_zip (Λ := []) (cs := []) (by kernel_rfl) (by kernel_rfl) (by kernel_rfl) trivial)
/-! 75 bowline/wide.Sub$1 -/
abbrev ps75 : List SV := [.d true tZ, .d true tZ]
abbrev rs75 : Shape := ⟨[(0, .d true tZ)], []⟩
noncomputable def F75 (F74 : (SV.denL ps74) → Option (rs74).den) (F76 : (SV.denL ps76) → Option (rs76).den) : (SV.denL ps75) → Option (rs75).den := runFn tb [(74, mkCall ps74 rs74 F74), (76, mkCall ps76 rs76 F76)] [] Tryz.f75 ps75 rs75
theorem call75 {F74 : (SV.denL ps74) → Option (rs74).den} {F76 : (SV.denL ps76) → Option (rs76).den} (h74 : CallOK Tryz.prog 74 (mkCall ps74 rs74 F74)) (h76 : CallOK Tryz.prog 76 (mkCall ps76 rs76 F76)) : CallOK Tryz.prog 75 (mkCall ps75 rs75 (F75 F74 F76)) :=
  runFn_ok mixed tabOK (Δ := [(74, mkCall ps74 rs74 F74), (76, mkCall ps76 rs76 F76)]) ⟨.inl h74, .inl h76, trivial⟩ ⟨Tryz.func75, rfl, by kernel_rfl, by kernel_rfl, by kernel_rfl, by kernel_rfl⟩ rfl (loopsAt_zip (Λ := []) (cs := []) (by kernel_rfl) (by kernel_rfl) (by kernel_rfl) trivial)
/-! 77 (bowline/wide.exact).times -/
abbrev ps77 : List SV := [.d true tZ, .d true tZ]
abbrev rs77 : Shape := ⟨[(0, .d true tZ)], []⟩
abbrev sh77_3 : Shape := ⟨[(2, .pt 0 0), (3, .pt 1 0), (4, .pt 2 0), (5, .pt 3 0)], [.box 85 [.d false .bool, .d false tN], .box 85 [.d false .bool, .d false tN], .box 85 [.d false .bool, .d false tN], .box 83 [.d false tN]]⟩
abbrev w77_3 : List Way := []
noncomputable def S77_3 (F65 : (SV.denL ps65) → Option (rs65).den) (F114 : (SV.denL ps114) → Option (rs114).den) : El125 → sh77_3.den → Option (sh77_3.den ⊕ denX w77_3) := roundFn tb [(65, mkCall ps65 rs65 F65), (114, mkCall ps114 rs114 F114)] [] (upTo 33) Tryz.f77 3 avs125 [(7, 12)] sh77_3 w77_3
noncomputable def F77 (F95 : (SV.denL ps95) → Option (rs95).den) (F115 : (SV.denL ps115) → Option (rs115).den) (D125 : Dt125) (g77_3 : List El125 → sh77_3.den → Option (sh77_3.den ⊕ denX w77_3)) : (SV.denL ps77) → Option (rs77).den := runFn tb [(95, mkCall ps95 rs95 F95), (115, mkCall ps115 rs115 F115)] [(3, rangeO (rgG Tryz.f77 3) 125 (cap125 D125) sh77_3 w77_3 g77_3)] Tryz.f77 ps77 rs77
theorem call77 {F114 : (SV.denL ps114) → Option (rs114).den} {F115 : (SV.denL ps115) → Option (rs115).den} {F65 : (SV.denL ps65) → Option (rs65).den} {F95 : (SV.denL ps95) → Option (rs95).den} {g77_3 : List El125 → sh77_3.den → Option (sh77_3.den ⊕ denX w77_3)} {D125 : Dt125} (it125 : IterOK Tryz.prog 125 encs125 (cap125 D125)) (h114 : CallOK Tryz.prog 114 (mkCall ps114 rs114 F114)) (h115 : CallOK Tryz.prog 115 (mkCall ps115 rs115 F115)) (h65 : CallOK Tryz.prog 65 (mkCall ps65 rs65 F65)) (h95 : CallOK Tryz.prog 95 (mkCall ps95 rs95 F95)) (hg77_3 : foldR (S77_3 F65 F114) = g77_3) : CallOK Tryz.prog 77 (mkCall ps77 rs77 (F77 F95 F115 D125 g77_3)) :=
  runFn_ok mixed tabOK (Δ := [(95, mkCall ps95 rs95 F95), (115, mkCall ps115 rs115 F115)]) ⟨.inl h95, .inl h115, trivial⟩ ⟨Tryz.func77, rfl, by kernel_rfl, by kernel_rfl, by kernel_rfl, by kernel_rfl⟩ rfl (loopsAt_zip (cs := [.rangeFunc (rgG Tryz.f77 3) (rgP Tryz.f77 3) (rgA Tryz.f77 3) (rgB Tryz.f77 3)]) (by kernel_rfl) (by kernel_rfl) (by kernel_rfl) ⟨by rw [← hg77_3]; exact roundFn_ok mixed tabOK (Δ := [(65, mkCall ps65 rs65 F65), (114, mkCall ps114 rs114 F114)]) ⟨.inl h65, .inl h114, trivial⟩ it125 ⟨by kernel_rfl, rel125, fun _ => rfl, by kernel_rfl, by kernel_rfl, by kernel_rfl, by kernel_rfl⟩ (loopsAt_zip (Λ := []) (cs := []) (by kernel_rfl) (by kernel_rfl) (by kernel_rfl) trivial), trivial⟩)
/-! 73 bowline/wide.operation -/
abbrev ps73 : List SV := [.d false tS, .d false tS, .d false .fv]
abbrev rs73 : Shape := ⟨[(0, .d false tS), (1, .d false tI)], []⟩
noncomputable def F73 (F41 : (SV.denL ps41) → Option (rs41).den) (F55 : (SV.denL ps55) → Option (rs55).den) (F66 : (SV.denL ps66) → Option (rs66).den) (F74 : (SV.denL ps74) → Option (rs74).den) (F75 : (SV.denL ps75) → Option (rs75).den) (F77 : (SV.denL ps77) → Option (rs77).den) (F81 : (SV.denL ps81) → Option (rs81).den) : (SV.denL ps73) → Option (rs73).den := runFn tb [(41, mkCall ps41 rs41 F41), (55, mkCall ps55 rs55 F55), (66, mkCall ps66 rs66 F66), (74, mkCall ps74 rs74 F74), (75, mkCall ps75 rs75 F75), (77, mkCall ps77 rs77 F77), (81, mkCall ps81 rs81 F81)] [] Tryz.f73 ps73 rs73
theorem call73 {F41 : (SV.denL ps41) → Option (rs41).den} {F55 : (SV.denL ps55) → Option (rs55).den} {F66 : (SV.denL ps66) → Option (rs66).den} {F74 : (SV.denL ps74) → Option (rs74).den} {F75 : (SV.denL ps75) → Option (rs75).den} {F77 : (SV.denL ps77) → Option (rs77).den} {F81 : (SV.denL ps81) → Option (rs81).den} (h41 : CallOK Tryz.prog 41 (mkCall ps41 rs41 F41)) (h55 : CallOK Tryz.prog 55 (mkCall ps55 rs55 F55)) (h66 : CallOK Tryz.prog 66 (mkCall ps66 rs66 F66)) (h74 : CallOK Tryz.prog 74 (mkCall ps74 rs74 F74)) (h75 : CallOK Tryz.prog 75 (mkCall ps75 rs75 F75)) (h77 : CallOK Tryz.prog 77 (mkCall ps77 rs77 F77)) (h81 : CallOK Tryz.prog 81 (mkCall ps81 rs81 F81)) : CallOK Tryz.prog 73 (mkCall ps73 rs73 (F73 F41 F55 F66 F74 F75 F77 F81)) :=
  runFn_ok mixed tabOK (Δ := [(41, mkCall ps41 rs41 F41), (55, mkCall ps55 rs55 F55), (66, mkCall ps66 rs66 F66), (74, mkCall ps74 rs74 F74), (75, mkCall ps75 rs75 F75), (77, mkCall ps77 rs77 F77), (81, mkCall ps81 rs81 F81)]) ⟨.inl h41, .inl h55, .inl h66, .inl h74, .inl h75, .inl h77, .inl h81, trivial⟩ ⟨Tryz.func73, rfl, by kernel_rfl, by kernel_rfl, by kernel_rfl, by kernel_rfl⟩ rfl (loopsAt_zip (Λ := []) (cs := []) (by kernel_rfl) (by kernel_rfl) (by kernel_rfl) trivial)
/-! 31 bowline/wide.Mul -/
abbrev ps31 : List SV := [.d false tS, .d false tS]
abbrev rs31 : Shape := ⟨[(0, .d false tS), (1, .d false tI)], []⟩
noncomputable def F31 (F73 : (SV.denL ps73) → Option (rs73).den) : (SV.denL ps31) → Option (rs31).den := runFn tb [(73, mkCall ps73 rs73 F73)] [] Tryz.f31 ps31 rs31
theorem call31 {F73 : (SV.denL ps73) → Option (rs73).den} (h73 : CallOK Tryz.prog 73 (mkCall ps73 rs73 F73)) : CallOK Tryz.prog 31 (mkCall ps31 rs31 (F31 F73)) :=
  runFn_ok mixed tabOK (Δ := [(73, mkCall ps73 rs73 F73)]) ⟨.inl h73, trivial⟩ ⟨Tryz.func31, rfl, by kernel_rfl, by kernel_rfl, by kernel_rfl, by kernel_rfl⟩ rfl (loopsAt_zip (Λ := []) (cs := []) (by kernel_rfl) (by kernel_rfl) (by kernel_rfl) trivial)
/-! 117 bowline/wide.divided -/
abbrev ps117 : List SV := [.d false tN, .d false tN]
abbrev rs117 : Shape := ⟨[(0, .d false tN), (1, .d false tN)], []⟩
abbrev sh117_8 : Shape := ⟨[(3, .pt 0 0), (6, .pt 1 0), (7, .pt 2 0), (8, .d false tI), (10, .d false tU), (11, .d false tU)], [.box 83 [.d false tN], .box 83 [.rf 3], .box 83 [.d false tN], .row tU 102]⟩
abbrev w117_8 : List Way := [(some 2, ⟨[(3, .pt 0 0), (6, .pt 1 0), (7, .pt 2 0), (8, .d false tI), (10, .d false tU)], [.box 83 [.d false tN], .box 83 [.rf 3], .box 83 [.d false tN], .row tU 102]⟩)]
abbrev sh117_4 : Shape := ⟨[(3, .pt 0 0), (6, .pt 1 0), (7, .pt 2 0)], [.box 83 [.d false tN], .box 83 [.rf 3], .box 83 [.d false tN], .row tU 102]⟩
abbrev w117_4 : List Way := []
noncomputable def S117_8 (F65 : (SV.denL ps65) → Option (rs65).den) (F94 : (SV.denL ps94) → Option (rs94).den) : sh117_8.den → Option (sh117_8.den ⊕ denX w117_8) := stepFn tb [(65, mkCall ps65 rs65 F65), (94, mkCall ps94 rs94 F94)] [] (roundOk (upTo 56) (slotsOf sh117_4.sl ++ slotsX w117_4)) Tryz.f117 8 sh117_8 w117_8
noncomputable def S117_4 (F65 : (SV.denL ps65) → Option (rs65).den) (F101 : (SV.denL ps101) → Option (rs101).den) (F116 : (SV.denL ps116) → Option (rs116).den) (g117_8 : sh117_8.den → Option (denX w117_8)) : El125 → sh117_4.den → Option (sh117_4.den ⊕ denX w117_4) := roundFn tb [(65, mkCall ps65 rs65 F65), (101, mkCall ps101 rs101 F101), (116, mkCall ps116 rs116 F116)] [(8, lp sh117_8 w117_8 g117_8)] (upTo 56) Tryz.f117 4 avs125 [(8, 18), (9, 19)] sh117_4 w117_4
noncomputable def F117 (F95 : (SV.denL ps95) → Option (rs95).den) (F101 : (SV.denL ps101) → Option (rs101).den) (D125 : Dt125) (g117_4 : List El125 → sh117_4.den → Option (sh117_4.den ⊕ denX w117_4)) : (SV.denL ps117) → Option (rs117).den := runFn tb [(95, mkCall ps95 rs95 F95), (101, mkCall ps101 rs101 F101)] [(4, rangeO (rgG Tryz.f117 4) 125 (cap125 D125) sh117_4 w117_4 g117_4)] Tryz.f117 ps117 rs117
theorem call117 {F101 : (SV.denL ps101) → Option (rs101).den} {F116 : (SV.denL ps116) → Option (rs116).den} {F65 : (SV.denL ps65) → Option (rs65).den} {F94 : (SV.denL ps94) → Option (rs94).den} {F95 : (SV.denL ps95) → Option (rs95).den} {g117_8 : sh117_8.den → Option (denX w117_8)} {g117_4 : List El125 → sh117_4.den → Option (sh117_4.den ⊕ denX w117_4)} {D125 : Dt125} (it125 : IterOK Tryz.prog 125 encs125 (cap125 D125)) (h101 : CallOK Tryz.prog 101 (mkCall ps101 rs101 F101)) (h116 : CallOK Tryz.prog 116 (mkCall ps116 rs116 F116)) (h65 : CallOK Tryz.prog 65 (mkCall ps65 rs65 F65)) (h94 : CallOK Tryz.prog 94 (mkCall ps94 rs94 F94)) (h95 : CallOK Tryz.prog 95 (mkCall ps95 rs95 F95)) (hg117_8 : Lim (S117_8 F65 F94) g117_8) (hg117_4 : foldR (S117_4 F65 F101 F116 g117_8) = g117_4) : CallOK Tryz.prog 117 (mkCall ps117 rs117 (F117 F95 F101 D125 g117_4)) :=
  runFn_ok mixed tabOK (Δ := [(95, mkCall ps95 rs95 F95), (101, mkCall ps101 rs101 F101)]) ⟨.inl h95, .inl h101, trivial⟩ ⟨Tryz.func117, rfl, by kernel_rfl, by kernel_rfl, by kernel_rfl, by kernel_rfl⟩ rfl (loopsAt_zip (cs := [.rangeFunc (rgG Tryz.f117 4) (rgP Tryz.f117 4) (rgA Tryz.f117 4) (rgB Tryz.f117 4)]) (by kernel_rfl) (by kernel_rfl) (by kernel_rfl) ⟨by rw [← hg117_4]; exact roundFn_ok mixed tabOK (Δ := [(65, mkCall ps65 rs65 F65), (101, mkCall ps101 rs101 F101), (116, mkCall ps116 rs116 F116)]) ⟨.inl h65, .inl h101, .inl h116, trivial⟩ it125 ⟨by kernel_rfl, rel125, fun _ => rfl, by kernel_rfl, by kernel_rfl, by kernel_rfl, by kernel_rfl⟩ (loopsAt_zip (cs := [.loop (loopOf Tryz.f117 8)]) (by kernel_rfl) (by kernel_rfl) (by kernel_rfl) ⟨stepLim_ok mixed tabOK (Δ := [(65, mkCall ps65 rs65 F65), (94, mkCall ps94 rs94 F94)]) ⟨.inl h65, .inl h94, trivial⟩ hg117_8 (loopsAt_zip (Λ := []) (cs := []) (by kernel_rfl) (by kernel_rfl) (by kernel_rfl) trivial), trivial⟩), trivial⟩)
/-! 79 (bowline/wide.exact).truncated -/
abbrev ps79 : List SV := [.d true tZ, .d true tZ]
abbrev rs79 : Shape := ⟨[(0, .d true (.pr tZ tZ))], []⟩
noncomputable def F79 (F115 : (SV.denL ps115) → Option (rs115).den) (F117 : (SV.denL ps117) → Option (rs117).den) : (SV.denL ps79) → Option (rs79).den := runFn tb [(115, mkCall ps115 rs115 F115), (117, mkCall ps117 rs117 F117)] [] Tryz.f79 ps79 rs79
theorem call79 {F115 : (SV.denL ps115) → Option (rs115).den} {F117 : (SV.denL ps117) → Option (rs117).den} (h115 : CallOK Tryz.prog 115 (mkCall ps115 rs115 F115)) (h117 : CallOK Tryz.prog 117 (mkCall ps117 rs117 F117)) : CallOK Tryz.prog 79 (mkCall ps79 rs79 (F79 F115 F117)) :=
  runFn_ok mixed tabOK (Δ := [(115, mkCall ps115 rs115 F115), (117, mkCall ps117 rs117 F117)]) ⟨.inl h115, .inl h117, trivial⟩ ⟨Tryz.func79, rfl, by kernel_rfl, by kernel_rfl, by kernel_rfl, by kernel_rfl⟩ rfl (loopsAt_zip (Λ := []) (cs := []) (by kernel_rfl) (by kernel_rfl) (by kernel_rfl) trivial)
/-! 80 bowline/wide.DivFloor$1 -/
abbrev ps80 : List SV := [.d true tZ, .d true tZ]
abbrev rs80 : Shape := ⟨[(0, .d true (.pr tZ tZ))], []⟩
noncomputable def F80 (F74 : (SV.denL ps74) → Option (rs74).den) (F79 : (SV.denL ps79) → Option (rs79).den) (F81 : (SV.denL ps81) → Option (rs81).den) : (SV.denL ps80) → Option (rs80).den := runFn tb [(74, mkCall ps74 rs74 F74), (79, mkCall ps79 rs79 F79), (81, mkCall ps81 rs81 F81)] [] Tryz.f80 ps80 rs80
theorem call80 {F74 : (SV.denL ps74) → Option (rs74).den} {F79 : (SV.denL ps79) → Option (rs79).den} {F81 : (SV.denL ps81) → Option (rs81).den} (h74 : CallOK Tryz.prog 74 (mkCall ps74 rs74 F74)) (h79 : CallOK Tryz.prog 79 (mkCall ps79 rs79 F79)) (h81 : CallOK Tryz.prog 81 (mkCall ps81 rs81 F81)) : CallOK Tryz.prog 80 (mkCall ps80 rs80 (F80 F74 F79 F81)) :=
  runFn_ok mixed tabOK (Δ := [(74, mkCall ps74 rs74 F74), (79, mkCall ps79 rs79 F79), (81, mkCall ps81 rs81 F81)]) ⟨.inl h74, .inl h79, .inl h81, trivial⟩ ⟨Tryz.func80, rfl, by kernel_rfl, by kernel_rfl, by kernel_rfl, by kernel_rfl⟩ rfl (loopsAt_zip (Λ := []) (cs := []) (by kernel_rfl) (by kernel_rfl) (by kernel_rfl) trivial)
/-! 78 bowline/wide.division -/
abbrev ps78 : List SV := [.d false tS, .d false tS, .d false .fv]
abbrev rs78 : Shape := ⟨[(0, .d false tS), (1, .d false tS), (2, .d false tI)], []⟩
noncomputable def F78 (F41 : (SV.denL ps41) → Option (rs41).den) (F55 : (SV.denL ps55) → Option (rs55).den) (F56 : (SV.denL ps56) → Option (rs56).den) (F66 : (SV.denL ps66) → Option (rs66).den) (F79 : (SV.denL ps79) → Option (rs79).den) (F80 : (SV.denL ps80) → Option (rs80).den) (F81 : (SV.denL ps81) → Option (rs81).den) : (SV.denL ps78) → Option (rs78).den := runFn tb [(41, mkCall ps41 rs41 F41), (55, mkCall ps55 rs55 F55), (56, mkCall ps56 rs56 F56), (66, mkCall ps66 rs66 F66), (79, mkCall ps79 rs79 F79), (80, mkCall ps80 rs80 F80), (81, mkCall ps81 rs81 F81)] [] Tryz.f78 ps78 rs78
theorem call78 {F41 : (SV.denL ps41) → Option (rs41).den} {F55 : (SV.denL ps55) → Option (rs55).den} {F56 : (SV.denL ps56) → Option (rs56).den} {F66 : (SV.denL ps66) → Option (rs66).den} {F79 : (SV.denL ps79) → Option (rs79).den} {F80 : (SV.denL ps80) → Option (rs80).den} {F81 : (SV.denL ps81) → Option (rs81).den} (h41 : CallOK Tryz.prog 41 (mkCall ps41 rs41 F41)) (h55 : CallOK Tryz.prog 55 (mkCall ps55 rs55 F55)) (h56 : CallOK Tryz.prog 56 (mkCall ps56 rs56 F56)) (h66 : CallOK Tryz.prog 66 (mkCall ps66 rs66 F66)) (h79 : CallOK Tryz.prog 79 (mkCall ps79 rs79 F79)) (h80 : CallOK Tryz.prog 80 (mkCall ps80 rs80 F80)) (h81 : CallOK Tryz.prog 81 (mkCall ps81 rs81 F81)) : CallOK Tryz.prog 78 (mkCall ps78 rs78 (F78 F41 F55 F56 F66 F79 F80 F81)) :=
  runFn_ok mixed tabOK (Δ := [(41, mkCall ps41 rs41 F41), (55, mkCall ps55 rs55 F55), (56, mkCall ps56 rs56 F56), (66, mkCall ps66 rs66 F66), (79, mkCall ps79 rs79 F79), (80, mkCall ps80 rs80 F80), (81, mkCall ps81 rs81 F81)]) ⟨.inl h41, .inl h55, .inl h56, .inl h66, .inl h79, .inl h80, .inl h81, trivial⟩ ⟨Tryz.func78, rfl, by kernel_rfl, by kernel_rfl, by kernel_rfl, by kernel_rfl⟩ rfl (loopsAt_zip (Λ := []) (cs := []) (by kernel_rfl) (by kernel_rfl) (by kernel_rfl) trivial)
/-! 33 bowline/wide.DivFloor -/
abbrev ps33 : List SV := [.d false tS, .d false tS]
abbrev rs33 : Shape := ⟨[(0, .d false tS), (1, .d false tS), (2, .d false tI)], []⟩
noncomputable def F33 (F78 : (SV.denL ps78) → Option (rs78).den) : (SV.denL ps33) → Option (rs33).den := runFn tb [(78, mkCall ps78 rs78 F78)] [] Tryz.f33 ps33 rs33
theorem call33 {F78 : (SV.denL ps78) → Option (rs78).den} (h78 : CallOK Tryz.prog 78 (mkCall ps78 rs78 F78)) : CallOK Tryz.prog 33 (mkCall ps33 rs33 (F33 F78)) :=
  runFn_ok mixed tabOK (Δ := [(78, mkCall ps78 rs78 F78)]) ⟨.inl h78, trivial⟩ ⟨Tryz.func33, rfl, by kernel_rfl, by kernel_rfl, by kernel_rfl, by kernel_rfl⟩ rfl (loopsAt_zip (Λ := []) (cs := []) (by kernel_rfl) (by kernel_rfl) (by kernel_rfl) trivial)
/-! 10 bowline/bowlinelaw01.awake -/
abbrev ps10 : List SV := []
abbrev rs10 : Shape := ⟨[(0, .d false .bool)], []⟩
noncomputable def F10 (F11 : (SV.denL ps11) → Option (rs11).den) (F13 : (SV.denL ps13) → Option (rs13).den) (F15 : (SV.denL ps15) → Option (rs15).den) (F17 : (SV.denL ps17) → Option (rs17).den) (F19 : (SV.denL ps19) → Option (rs19).den) (F21 : (SV.denL ps21) → Option (rs21).den) (F23 : (SV.denL ps23) → Option (rs23).den) (F25 : (SV.denL ps25) → Option (rs25).den) (F31 : (SV.denL ps31) → Option (rs31).den) (F33 : (SV.denL ps33) → Option (rs33).den) : (SV.denL ps10) → Option (rs10).den := runFn tb [(11, mkCall ps11 rs11 F11), (13, mkCall ps13 rs13 F13), (15, mkCall ps15 rs15 F15), (17, mkCall ps17 rs17 F17), (19, mkCall ps19 rs19 F19), (21, mkCall ps21 rs21 F21), (23, mkCall ps23 rs23 F23), (25, mkCall ps25 rs25 F25), (31, mkCall ps31 rs31 F31), (33, mkCall ps33 rs33 F33)] [] Tryz.f10 ps10 rs10
theorem call10 {F11 : (SV.denL ps11) → Option (rs11).den} {F13 : (SV.denL ps13) → Option (rs13).den} {F15 : (SV.denL ps15) → Option (rs15).den} {F17 : (SV.denL ps17) → Option (rs17).den} {F19 : (SV.denL ps19) → Option (rs19).den} {F21 : (SV.denL ps21) → Option (rs21).den} {F23 : (SV.denL ps23) → Option (rs23).den} {F25 : (SV.denL ps25) → Option (rs25).den} {F31 : (SV.denL ps31) → Option (rs31).den} {F33 : (SV.denL ps33) → Option (rs33).den} (h11 : CallOK Tryz.prog 11 (mkCall ps11 rs11 F11)) (h13 : CallOK Tryz.prog 13 (mkCall ps13 rs13 F13)) (h15 : CallOK Tryz.prog 15 (mkCall ps15 rs15 F15)) (h17 : CallOK Tryz.prog 17 (mkCall ps17 rs17 F17)) (h19 : CallOK Tryz.prog 19 (mkCall ps19 rs19 F19)) (h21 : CallOK Tryz.prog 21 (mkCall ps21 rs21 F21)) (h23 : CallOK Tryz.prog 23 (mkCall ps23 rs23 F23)) (h25 : CallOK Tryz.prog 25 (mkCall ps25 rs25 F25)) (h31 : CallOK Tryz.prog 31 (mkCall ps31 rs31 F31)) (h33 : CallOK Tryz.prog 33 (mkCall ps33 rs33 F33)) : CallOK Tryz.prog 10 (mkCall ps10 rs10 (F10 F11 F13 F15 F17 F19 F21 F23 F25 F31 F33)) :=
  runFn_ok mixed tabOK (Δ := [(11, mkCall ps11 rs11 F11), (13, mkCall ps13 rs13 F13), (15, mkCall ps15 rs15 F15), (17, mkCall ps17 rs17 F17), (19, mkCall ps19 rs19 F19), (21, mkCall ps21 rs21 F21), (23, mkCall ps23 rs23 F23), (25, mkCall ps25 rs25 F25), (31, mkCall ps31 rs31 F31), (33, mkCall ps33 rs33 F33)]) ⟨.inl h11, .inl h13, .inl h15, .inl h17, .inl h19, .inl h21, .inl h23, .inl h25, .inl h31, .inl h33, trivial⟩ ⟨Tryz.func10, rfl, by kernel_rfl, by kernel_rfl, by kernel_rfl, by kernel_rfl⟩ rfl (loopsAt_zip (Λ := []) (cs := []) (by kernel_rfl) (by kernel_rfl) (by kernel_rfl) trivial)
/-! 59 bowline/bowlineref01.When -/
abbrev ps59 : List SV := [.d false .bool, .d false tI]
abbrev rs59 : Shape := ⟨[(0, .d false tI)], []⟩
noncomputable def F59 : (SV.denL ps59) → Option (rs59).den := runFn tb [] [] Tryz.f59 ps59 rs59
theorem call59 : CallOK Tryz.prog 59 (mkCall ps59 rs59 (F59)) :=
  runFn_ok mixed tabOK (Δ := []) trivial ⟨Tryz.func59, rfl, by kernel_rfl, by kernel_rfl, by kernel_rfl, by kernel_rfl⟩ rfl (loopsAt_zip (Λ := []) (cs := []) (by kernel_rfl) (by kernel_rfl) (by kernel_rfl) trivial)
/-! 72 bowline/bowlineref01.IsDigit -/
abbrev ps72 : List SV := [.d false (.int .u8)]
abbrev rs72 : Shape := ⟨[(0, .d false .bool)], []⟩
noncomputable def F72 : (SV.denL ps72) → Option (rs72).den := runFn tb [] [] Tryz.f72 ps72 rs72
theorem call72 : CallOK Tryz.prog 72 (mkCall ps72 rs72 (F72)) :=
  runFn_ok mixed tabOK (Δ := []) trivial ⟨Tryz.func72, rfl, by kernel_rfl, by kernel_rfl, by kernel_rfl, by kernel_rfl⟩ rfl (loopsAt_zip (Λ := []) (cs := []) (by kernel_rfl) (by kernel_rfl) (by kernel_rfl) trivial)
/-! 91 bowline/bowlineref01.Number -/
abbrev ps91 : List SV := [.d false tS]
abbrev rs91 : Shape := ⟨[(0, .d false tI), (1, .d false .bool)], []⟩
abbrev sh91_5 : Shape := ⟨[(0, .d false tS), (4, .d false tI), (5, .d false tI)], []⟩
abbrev w91_5 : List Way := [(none, ⟨[(2, .d false tI), (3, .d false .bool)], []⟩), (some 0, ⟨[(4, .d false tI)], []⟩)]
noncomputable def F91 (g91_5 : sh91_5.den → Option (denX w91_5)) : (SV.denL ps91) → Option (rs91).den := runFn tb [] [(5, lp sh91_5 w91_5 g91_5)] Tryz.f91 ps91 rs91
/-! 43 bowline/bowlineref01.parts -/
abbrev ps43 : List SV := [.d false tS]
abbrev rs43 : Shape := ⟨[(0, .d false .bool), (1, .d false tI), (2, .d false tI)], []⟩
noncomputable def F43 (F59 : (SV.denL ps59) → Option (rs59).den) (F91 : (SV.denL ps91) → Option (rs91).den) : (SV.denL ps43) → Option (rs43).den := runFn tb [(59, mkCall ps59 rs59 F59), (91, mkCall ps91 rs91 F91)] [] Tryz.f43 ps43 rs43
/-! 12 bowline/bowlineref01.Width -/
abbrev ps12 : List SV := [.d false tS]
abbrev rs12 : Shape := ⟨[(0, .d false tI), (1, .d false .bool), (2, .d false tI)], []⟩
noncomputable def F12 (F43 : (SV.denL ps43) → Option (rs43).den) : (SV.denL ps12) → Option (rs12).den := runFn tb [(43, mkCall ps43 rs43 F43)] [] Tryz.f12 ps12 rs12
/-! 16 bowline/bowlineref01.Check -/
abbrev ps16 : List SV := [.d false tS]
abbrev rs16 : Shape := ⟨[(0, .d false tI)], []⟩
noncomputable def F16 (F43 : (SV.denL ps43) → Option (rs43).den) : (SV.denL ps16) → Option (rs16).den := runFn tb [(43, mkCall ps43 rs43 F43)] [] Tryz.f16 ps16 rs16
/-! 96 bowline/bowlineref01.trimmed -/
abbrev ps96 : List SV := [.d true (.pr .bool (.sl tI))]
abbrev rs96 : Shape := ⟨[(0, .d true (.pr .bool (.sl tI)))], []⟩
abbrev sh96_2 : Shape := ⟨[(1, .pt 0 0), (2, .pt 1 0), (3, .d false tI)], [.box 79 [.d false .bool, .d false (.sl tI)], .box 79 [.d false .bool, .d false (.sl tI)]]⟩
abbrev w96_2 : List Way := [(some 0, sh96_2)]
noncomputable def S96_2 : sh96_2.den → Option (sh96_2.den ⊕ denX w96_2) := stepFn tb [] [] (upTo 29) Tryz.f96 2 sh96_2 w96_2
noncomputable def F96 (g96_2 : sh96_2.den → Option (denX w96_2)) : (SV.denL ps96) → Option (rs96).den := runFn tb [] [(2, lp sh96_2 w96_2 g96_2)] Tryz.f96 ps96 rs96
theorem call96 {g96_2 : sh96_2.den → Option (denX w96_2)} (hg96_2 : Lim (S96_2) g96_2) : CallOK Tryz.prog 96 (mkCall ps96 rs96 (F96 g96_2)) :=
  runFn_ok mixed tabOK (Δ := []) trivial ⟨Tryz.func96, rfl, by kernel_rfl, by kernel_rfl, by kernel_rfl, by kernel_rfl⟩ rfl (loopsAt_zip (cs := [.loop (loopOf Tryz.f96 2)]) (by kernel_rfl) (by kernel_rfl) (by kernel_rfl) ⟨stepLim_ok mixed tabOK (Δ := []) trivial hg96_2 (loopsAt_zip (Λ := []) (cs := []) (by kernel_rfl) (by kernel_rfl) (by kernel_rfl) trivial), trivial⟩)
/-! 52 bowline/bowlineref01.Read -/
abbrev ps52 : List SV := [.d false tS]
abbrev rs52 : Shape := ⟨[(0, .d true (.pr .bool (.sl tI)))], []⟩
abbrev sh52_6 : Shape := ⟨[(0, .d false tS), (2, .pt 0 0), (3, .pt 1 0), (4, .d false tI)], [.box 79 [.d false .bool, .d false (.sl tI)], .box 79 [.d false .bool, .rf 2], .row tI 3]⟩
abbrev w52_6 : List Way := [(some 0, ⟨[(2, .pt 0 0), (3, .pt 1 0)], [.box 79 [.d false .bool, .d false (.sl tI)], .box 79 [.d false .bool, .rf 2], .row tI 3]⟩)]
noncomputable def S52_6 : sh52_6.den → Option (sh52_6.den ⊕ denX w52_6) := stepFn tb [] [] (upTo 34) Tryz.f52 6 sh52_6 w52_6
noncomputable def F52 (F96 : (SV.denL ps96) → Option (rs96).den) (g52_6 : sh52_6.den → Option (denX w52_6)) : (SV.denL ps52) → Option (rs52).den := runFn tb [(96, mkCall ps96 rs96 F96)] [(6, lp sh52_6 w52_6 g52_6)] Tryz.f52 ps52 rs52
theorem call52 {F96 : (SV.denL ps96) → Option (rs96).den} {g52_6 : sh52_6.den → Option (denX w52_6)} (h96 : CallOK Tryz.prog 96 (mkCall ps96 rs96 F96)) (hg52_6 : Lim (S52_6) g52_6) : CallOK Tryz.prog 52 (mkCall ps52 rs52 (F52 F96 g52_6)) :=
  runFn_ok mixed tabOK (Δ := [(96, mkCall ps96 rs96 F96)]) ⟨.inl h96, trivial⟩ ⟨Tryz.func52, rfl, by kernel_rfl, by kernel_rfl, by kernel_rfl, by kernel_rfl⟩ rfl (loopsAt_zip (cs := [.loop (loopOf Tryz.f52 6)]) (by kernel_rfl) (by kernel_rfl) (by kernel_rfl) ⟨stepLim_ok mixed tabOK (Δ := []) trivial hg52_6 (loopsAt_zip (Λ := []) (cs := []) (by kernel_rfl) (by kernel_rfl) (by kernel_rfl) trivial), trivial⟩)
/-! 140 bowline/bowlineref01.natural -/
abbrev ps140 : List SV := [.d false tI, .d false tI]
abbrev rs140 : Shape := ⟨[(0, .d false tS)], []⟩
noncomputable def F140 (R140 : (SV.denL ps140) → Option (rs140).den) : (SV.denL ps140) → Option (rs140).den := runFn tb [(140, mkCall ps140 rs140 R140)] [] Tryz.f140 ps140 rs140
/-! 113 bowline/bowlineref01.Text -/
abbrev ps113 : List SV := [.d false tI]
abbrev rs113 : Shape := ⟨[(0, .d false tS)], []⟩
noncomputable def F113 (F140 : (SV.denL ps140) → Option (rs140).den) : (SV.denL ps113) → Option (rs113).den := runFn tb [(140, mkCall ps140 rs140 F140)] [] Tryz.f113 ps113 rs113
/-! 70 bowline/bowlineref01.Small -/
abbrev ps70 : List SV := [.d false tI]
abbrev rs70 : Shape := ⟨[(0, .d true (.pr .bool (.sl tI)))], []⟩
noncomputable def F70 (F52 : (SV.denL ps52) → Option (rs52).den) (F113 : (SV.denL ps113) → Option (rs113).den) : (SV.denL ps70) → Option (rs70).den := runFn tb [(52, mkCall ps52 rs52 F52), (113, mkCall ps113 rs113 F113)] [] Tryz.f70 ps70 rs70
/-! 112 bowline/bowlineref01.digit -/
abbrev ps112 : List SV := [.d false (.sl tI), .d false tI]
abbrev rs112 : Shape := ⟨[(0, .d false tI)], []⟩
noncomputable def F112 : (SV.denL ps112) → Option (rs112).den := runFn tb [] [] Tryz.f112 ps112 rs112
theorem call112 : CallOK Tryz.prog 112 (mkCall ps112 rs112 (F112)) :=
  runFn_ok mixed tabOK (Δ := []) trivial ⟨Tryz.func112, rfl, by kernel_rfl, by kernel_rfl, by kernel_rfl, by kernel_rfl⟩ rfl (loopsAt_zip (Λ := []) (cs := []) (by kernel_rfl) (by kernel_rfl) (by kernel_rfl) trivial)
/-! 109 bowline/bowlineref01.together -/
abbrev ps109 : List SV := [.d false (.sl tI), .d false (.sl tI)]
abbrev rs109 : Shape := ⟨[(0, .d false (.sl tI))], []⟩
abbrev sh109_4 : Shape := ⟨[(0, .d false (.sl tI)), (1, .d false (.sl tI)), (5, .rf 0), (6, .d false tI), (7, .d false tI)], [.row tI 3]⟩
abbrev w109_4 : List Way := [(some 0, ⟨[(5, .rf 0)], [.row tI 3]⟩)]
noncomputable def S109_4 (F112 : (SV.denL ps112) → Option (rs112).den) : sh109_4.den → Option (sh109_4.den ⊕ denX w109_4) := stepFn tb [(112, mkCall ps112 rs112 F112)] [] (upTo 42) Tryz.f109 4 sh109_4 w109_4
noncomputable def F109 (g109_4 : sh109_4.den → Option (denX w109_4)) : (SV.denL ps109) → Option (rs109).den := runFn tb [] [(4, lp sh109_4 w109_4 g109_4)] Tryz.f109 ps109 rs109
theorem call109 {F112 : (SV.denL ps112) → Option (rs112).den} {g109_4 : sh109_4.den → Option (denX w109_4)} (h112 : CallOK Tryz.prog 112 (mkCall ps112 rs112 F112)) (hg109_4 : Lim (S109_4 F112) g109_4) : CallOK Tryz.prog 109 (mkCall ps109 rs109 (F109 g109_4)) :=
  runFn_ok mixed tabOK (Δ := []) trivial ⟨Tryz.func109, rfl, by kernel_rfl, by kernel_rfl, by kernel_rfl, by kernel_rfl⟩ rfl (loopsAt_zip (cs := [.loop (loopOf Tryz.f109 4)]) (by kernel_rfl) (by kernel_rfl) (by kernel_rfl) ⟨stepLim_ok mixed tabOK (Δ := [(112, mkCall ps112 rs112 F112)]) ⟨.inl h112, trivial⟩ hg109_4 (loopsAt_zip (Λ := []) (cs := []) (by kernel_rfl) (by kernel_rfl) (by kernel_rfl) trivial), trivial⟩)
/-! 110 bowline/bowlineref01.magnitudes -/
abbrev ps110 : List SV := [.d false (.sl tI), .d false (.sl tI)]
abbrev rs110 : Shape := ⟨[(0, .d false tI)], []⟩
abbrev sh110_2 : Shape := ⟨[(0, .d false (.sl tI)), (1, .d false (.sl tI)), (5, .d false tI)], []⟩
abbrev w110_2 : List Way := [(none, ⟨[(4, .d false tI)], []⟩), (some 0, ⟨[], []⟩)]
noncomputable def S110_2 (F112 : (SV.denL ps112) → Option (rs112).den) : sh110_2.den → Option (sh110_2.den ⊕ denX w110_2) := stepFn tb [(112, mkCall ps112 rs112 F112)] [] (upTo 30) Tryz.f110 2 sh110_2 w110_2
noncomputable def F110 (g110_2 : sh110_2.den → Option (denX w110_2)) : (SV.denL ps110) → Option (rs110).den := runFn tb [] [(2, lp sh110_2 w110_2 g110_2)] Tryz.f110 ps110 rs110
theorem call110 {F112 : (SV.denL ps112) → Option (rs112).den} {g110_2 : sh110_2.den → Option (denX w110_2)} (h112 : CallOK Tryz.prog 112 (mkCall ps112 rs112 F112)) (hg110_2 : Lim (S110_2 F112) g110_2) : CallOK Tryz.prog 110 (mkCall ps110 rs110 (F110 g110_2)) :=
  runFn_ok mixed tabOK (Δ := []) trivial ⟨Tryz.func110, rfl, by kernel_rfl, by kernel_rfl, by kernel_rfl, by kernel_rfl⟩ rfl (loopsAt_zip (cs := [.loop (loopOf Tryz.f110 2)]) (by kernel_rfl) (by kernel_rfl) (by kernel_rfl) ⟨stepLim_ok mixed tabOK (Δ := [(112, mkCall ps112 rs112 F112)]) ⟨.inl h112, trivial⟩ hg110_2 (loopsAt_zip (Λ := []) (cs := []) (by kernel_rfl) (by kernel_rfl) (by kernel_rfl) trivial), trivial⟩)
/-! 111 bowline/bowlineref01.apart -/
abbrev ps111 : List SV := [.d false (.sl tI), .d false (.sl tI)]
abbrev rs111 : Shape := ⟨[(0, .d false (.sl tI))], []⟩
abbrev sh111_4 : Shape := ⟨[(0, .d false (.sl tI)), (1, .d false (.sl tI)), (5, .rf 0), (6, .d false tI), (7, .d false tI)], [.row tI 3]⟩
abbrev w111_4 : List Way := [(some 0, ⟨[(5, .rf 0)], [.row tI 3]⟩)]
noncomputable def S111_4 (F112 : (SV.denL ps112) → Option (rs112).den) : sh111_4.den → Option (sh111_4.den ⊕ denX w111_4) := stepFn tb [(112, mkCall ps112 rs112 F112)] [] (upTo 33) Tryz.f111 4 sh111_4 w111_4
noncomputable def F111 (g111_4 : sh111_4.den → Option (denX w111_4)) : (SV.denL ps111) → Option (rs111).den := runFn tb [] [(4, lp sh111_4 w111_4 g111_4)] Tryz.f111 ps111 rs111
theorem call111 {F112 : (SV.denL ps112) → Option (rs112).den} {g111_4 : sh111_4.den → Option (denX w111_4)} (h112 : CallOK Tryz.prog 112 (mkCall ps112 rs112 F112)) (hg111_4 : Lim (S111_4 F112) g111_4) : CallOK Tryz.prog 111 (mkCall ps111 rs111 (F111 g111_4)) :=
  runFn_ok mixed tabOK (Δ := []) trivial ⟨Tryz.func111, rfl, by kernel_rfl, by kernel_rfl, by kernel_rfl, by kernel_rfl⟩ rfl (loopsAt_zip (cs := [.loop (loopOf Tryz.f111 4)]) (by kernel_rfl) (by kernel_rfl) (by kernel_rfl) ⟨stepLim_ok mixed tabOK (Δ := [(112, mkCall ps112 rs112 F112)]) ⟨.inl h112, trivial⟩ hg111_4 (loopsAt_zip (Λ := []) (cs := []) (by kernel_rfl) (by kernel_rfl) (by kernel_rfl) trivial), trivial⟩)
/-! 68 bowline/bowlineref01.Plus -/
abbrev ps68 : List SV := [.d true (.pr .bool (.sl tI)), .d true (.pr .bool (.sl tI))]
abbrev rs68 : Shape := ⟨[(0, .d true (.pr .bool (.sl tI)))], []⟩
noncomputable def F68 (F96 : (SV.denL ps96) → Option (rs96).den) (F109 : (SV.denL ps109) → Option (rs109).den) (F110 : (SV.denL ps110) → Option (rs110).den) (F111 : (SV.denL ps111) → Option (rs111).den) : (SV.denL ps68) → Option (rs68).den := runFn tb [(96, mkCall ps96 rs96 F96), (109, mkCall ps109 rs109 F109), (110, mkCall ps110 rs110 F110), (111, mkCall ps111 rs111 F111)] [] Tryz.f68 ps68 rs68
theorem call68 {F109 : (SV.denL ps109) → Option (rs109).den} {F110 : (SV.denL ps110) → Option (rs110).den} {F111 : (SV.denL ps111) → Option (rs111).den} {F96 : (SV.denL ps96) → Option (rs96).den} (h109 : CallOK Tryz.prog 109 (mkCall ps109 rs109 F109)) (h110 : CallOK Tryz.prog 110 (mkCall ps110 rs110 F110)) (h111 : CallOK Tryz.prog 111 (mkCall ps111 rs111 F111)) (h96 : CallOK Tryz.prog 96 (mkCall ps96 rs96 F96)) : CallOK Tryz.prog 68 (mkCall ps68 rs68 (F68 F96 F109 F110 F111)) :=
  runFn_ok mixed tabOK (Δ := [(96, mkCall ps96 rs96 F96), (109, mkCall ps109 rs109 F109), (110, mkCall ps110 rs110 F110), (111, mkCall ps111 rs111 F111)]) ⟨.inl h96, .inl h109, .inl h110, .inl h111, trivial⟩ ⟨Tryz.func68, rfl, by kernel_rfl, by kernel_rfl, by kernel_rfl, by kernel_rfl⟩ rfl (loopsAt_zip (Λ := []) (cs := []) (by kernel_rfl) (by kernel_rfl) (by kernel_rfl) trivial)
/-! 93 bowline/bowlineref01.Negated -/
abbrev ps93 : List SV := [.d true (.pr .bool (.sl tI))]
abbrev rs93 : Shape := ⟨[(0, .d true (.pr .bool (.sl tI)))], []⟩
noncomputable def F93 (F96 : (SV.denL ps96) → Option (rs96).den) : (SV.denL ps93) → Option (rs93).den := runFn tb [(96, mkCall ps96 rs96 F96)] [] Tryz.f93 ps93 rs93
theorem call93 {F96 : (SV.denL ps96) → Option (rs96).den} (h96 : CallOK Tryz.prog 96 (mkCall ps96 rs96 F96)) : CallOK Tryz.prog 93 (mkCall ps93 rs93 (F93 F96)) :=
  runFn_ok mixed tabOK (Δ := [(96, mkCall ps96 rs96 F96)]) ⟨.inl h96, trivial⟩ ⟨Tryz.func93, rfl, by kernel_rfl, by kernel_rfl, by kernel_rfl, by kernel_rfl⟩ rfl (loopsAt_zip (Λ := []) (cs := []) (by kernel_rfl) (by kernel_rfl) (by kernel_rfl) trivial)
/-! 82 bowline/bowlineref01.Minus -/
abbrev ps82 : List SV := [.d true (.pr .bool (.sl tI)), .d true (.pr .bool (.sl tI))]
abbrev rs82 : Shape := ⟨[(0, .d true (.pr .bool (.sl tI)))], []⟩
noncomputable def F82 (F68 : (SV.denL ps68) → Option (rs68).den) (F93 : (SV.denL ps93) → Option (rs93).den) : (SV.denL ps82) → Option (rs82).den := runFn tb [(68, mkCall ps68 rs68 F68), (93, mkCall ps93 rs93 F93)] [] Tryz.f82 ps82 rs82
theorem call82 {F68 : (SV.denL ps68) → Option (rs68).den} {F93 : (SV.denL ps93) → Option (rs93).den} (h68 : CallOK Tryz.prog 68 (mkCall ps68 rs68 F68)) (h93 : CallOK Tryz.prog 93 (mkCall ps93 rs93 F93)) : CallOK Tryz.prog 82 (mkCall ps82 rs82 (F82 F68 F93)) :=
  runFn_ok mixed tabOK (Δ := [(68, mkCall ps68 rs68 F68), (93, mkCall ps93 rs93 F93)]) ⟨.inl h68, .inl h93, trivial⟩ ⟨Tryz.func82, rfl, by kernel_rfl, by kernel_rfl, by kernel_rfl, by kernel_rfl⟩ rfl (loopsAt_zip (Λ := []) (cs := []) (by kernel_rfl) (by kernel_rfl) (by kernel_rfl) trivial)
/-! 69 bowline/bowlineref01.Times -/
abbrev ps69 : List SV := [.d true (.pr .bool (.sl tI)), .d true (.pr .bool (.sl tI))]
abbrev rs69 : Shape := ⟨[(0, .d true (.pr .bool (.sl tI)))], []⟩
abbrev sh69_7 : Shape := ⟨[(2, .pt 0 0), (3, .pt 1 0), (4, .pt 2 0), (5, .rf 3), (6, .d false tI), (7, .d false tI), (8, .d false tI)], [.box 79 [.d false .bool, .d false (.sl tI)], .box 79 [.d false .bool, .d false (.sl tI)], .box 79 [.d false .bool, .d false (.sl tI)], .row tI 3]⟩
abbrev w69_7 : List Way := [(some 2, ⟨[(2, .pt 0 0), (3, .pt 1 0), (4, .pt 2 0), (5, .rf 3), (6, .d false tI)], [.box 79 [.d false .bool, .d false (.sl tI)], .box 79 [.d false .bool, .d false (.sl tI)], .box 79 [.d false .bool, .d false (.sl tI)], .row tI 3]⟩)]
abbrev sh69_3 : Shape := ⟨[(2, .pt 0 0), (3, .pt 1 0), (4, .pt 2 0), (5, .rf 3), (6, .d false tI)], [.box 79 [.d false .bool, .d false (.sl tI)], .box 79 [.d false .bool, .d false (.sl tI)], .box 79 [.d false .bool, .d false (.sl tI)], .row tI 3]⟩
abbrev w69_3 : List Way := [(some 0, ⟨[(2, .pt 0 0), (3, .pt 1 0), (4, .pt 2 0), (5, .rf 3)], [.box 79 [.d false .bool, .d false (.sl tI)], .box 79 [.d false .bool, .d false (.sl tI)], .box 79 [.d false .bool, .d false (.sl tI)], .row tI 3]⟩)]
noncomputable def S69_7 (F112 : (SV.denL ps112) → Option (rs112).den) : sh69_7.den → Option (sh69_7.den ⊕ denX w69_7) := stepFn tb [(112, mkCall ps112 rs112 F112)] [] (upTo 69) Tryz.f69 7 sh69_7 w69_7
noncomputable def S69_3 (g69_7 : sh69_7.den → Option (denX w69_7)) : sh69_3.den → Option (sh69_3.den ⊕ denX w69_3) := stepFn tb [] [(7, lp sh69_7 w69_7 g69_7)] (upTo 69) Tryz.f69 3 sh69_3 w69_3
noncomputable def F69 (F96 : (SV.denL ps96) → Option (rs96).den) (g69_3 : sh69_3.den → Option (denX w69_3)) : (SV.denL ps69) → Option (rs69).den := runFn tb [(96, mkCall ps96 rs96 F96)] [(3, lp sh69_3 w69_3 g69_3)] Tryz.f69 ps69 rs69
theorem call69 {F112 : (SV.denL ps112) → Option (rs112).den} {F96 : (SV.denL ps96) → Option (rs96).den} {g69_7 : sh69_7.den → Option (denX w69_7)} {g69_3 : sh69_3.den → Option (denX w69_3)} (h112 : CallOK Tryz.prog 112 (mkCall ps112 rs112 F112)) (h96 : CallOK Tryz.prog 96 (mkCall ps96 rs96 F96)) (hg69_7 : Lim (S69_7 F112) g69_7) (hg69_3 : Lim (S69_3 g69_7) g69_3) : CallOK Tryz.prog 69 (mkCall ps69 rs69 (F69 F96 g69_3)) :=
  runFn_ok mixed tabOK (Δ := [(96, mkCall ps96 rs96 F96)]) ⟨.inl h96, trivial⟩ ⟨Tryz.func69, rfl, by kernel_rfl, by kernel_rfl, by kernel_rfl, by kernel_rfl⟩ rfl (loopsAt_zip (cs := [.loop (loopOf Tryz.f69 3)]) (by kernel_rfl) (by kernel_rfl) (by kernel_rfl) ⟨stepLim_ok mixed tabOK (Δ := []) trivial hg69_3 (loopsAt_zip (cs := [.loop (loopOf Tryz.f69 7)]) (by kernel_rfl) (by kernel_rfl) (by kernel_rfl) ⟨stepLim_ok mixed tabOK (Δ := [(112, mkCall ps112 rs112 F112)]) ⟨.inl h112, trivial⟩ hg69_7 (loopsAt_zip (Λ := []) (cs := []) (by kernel_rfl) (by kernel_rfl) (by kernel_rfl) trivial), trivial⟩), trivial⟩)
/-! 92 bowline/bowlineref01.Power -/
abbrev ps92 : List SV := [.d true (.pr .bool (.sl tI)), .d false tI]
abbrev rs92 : Shape := ⟨[(0, .d true (.pr .bool (.sl tI)))], []⟩
abbrev sh92_2 : Shape := ⟨[(1, .d false tI), (2, .pt 0 0), (4, .pt 1 0), (5, .pt 2 0)], [.box 79 [.d false .bool, .d false (.sl tI)], .box 79 [.d false .bool, .d false (.sl tI)], .box 79 [.d false .bool, .d false (.sl tI)]]⟩
abbrev w92_2 : List Way := [(some 0, ⟨[(4, .pt 0 0), (5, .pt 1 0)], [.box 79 [.d false .bool, .d false (.sl tI)], .box 79 [.d false .bool, .d false (.sl tI)]]⟩)]
noncomputable def F92 (F70 : (SV.denL ps70) → Option (rs70).den) (g92_2 : sh92_2.den → Option (denX w92_2)) : (SV.denL ps92) → Option (rs92).den := runFn tb [(70, mkCall ps70 rs70 F70)] [(2, lp sh92_2 w92_2 g92_2)] Tryz.f92 ps92 rs92
/-! 45 bowline/bowlineref01.Bounds -/
abbrev ps45 : List SV := [.d false tS]
abbrev rs45 : Shape := ⟨[(0, .d true (.pr .bool (.sl tI))), (1, .d true (.pr .bool (.sl tI)))], []⟩
noncomputable def F45 (F43 : (SV.denL ps43) → Option (rs43).den) (F70 : (SV.denL ps70) → Option (rs70).den) (F82 : (SV.denL ps82) → Option (rs82).den) (F92 : (SV.denL ps92) → Option (rs92).den) (F93 : (SV.denL ps93) → Option (rs93).den) : (SV.denL ps45) → Option (rs45).den := runFn tb [(43, mkCall ps43 rs43 F43), (70, mkCall ps70 rs70 F70), (82, mkCall ps82 rs82 F82), (92, mkCall ps92 rs92 F92), (93, mkCall ps93 rs93 F93)] [] Tryz.f45 ps45 rs45
/-! 46 bowline/bowlineref01.Write -/
abbrev ps46 : List SV := [.d true (.pr .bool (.sl tI))]
abbrev rs46 : Shape := ⟨[(0, .d false tS)], []⟩
abbrev sh46_7 : Shape := ⟨[(1, .pt 0 0), (3, .rf 1), (4, .d false tI)], [.box 79 [.d false .bool, .d false (.sl tI)], .row (.int .u8) 5]⟩
abbrev w46_7 : List Way := [(some 0, ⟨[(3, .rf 0)], [.row (.int .u8) 5]⟩)]
noncomputable def S46_7 : sh46_7.den → Option (sh46_7.den ⊕ denX w46_7) := stepFn tb [] [] (upTo 34) Tryz.f46 7 sh46_7 w46_7
noncomputable def F46 (g46_7 : sh46_7.den → Option (denX w46_7)) : (SV.denL ps46) → Option (rs46).den := runFn tb [] [(7, lp sh46_7 w46_7 g46_7)] Tryz.f46 ps46 rs46
theorem call46 {g46_7 : sh46_7.den → Option (denX w46_7)} (hg46_7 : Lim (S46_7) g46_7) : CallOK Tryz.prog 46 (mkCall ps46 rs46 (F46 g46_7)) :=
  runFn_ok mixed tabOK (Δ := []) trivial ⟨Tryz.func46, rfl, by kernel_rfl, by kernel_rfl, by kernel_rfl, by kernel_rfl⟩ rfl (loopsAt_zip (cs := [.loop (loopOf Tryz.f46 7)]) (by kernel_rfl) (by kernel_rfl) (by kernel_rfl) ⟨stepLim_ok mixed tabOK (Δ := []) trivial hg46_7 (loopsAt_zip (Λ := []) (cs := []) (by kernel_rfl) (by kernel_rfl) (by kernel_rfl) trivial), trivial⟩)
/-! 14 bowline/bowlineref01.Limits -/
abbrev ps14 : List SV := [.d false tS]
abbrev rs14 : Shape := ⟨[(0, .d false tS), (1, .d false tS), (2, .d false tI)], []⟩
noncomputable def F14 (F16 : (SV.denL ps16) → Option (rs16).den) (F45 : (SV.denL ps45) → Option (rs45).den) (F46 : (SV.denL ps46) → Option (rs46).den) : (SV.denL ps14) → Option (rs14).den := runFn tb [(16, mkCall ps16 rs16 F16), (45, mkCall ps45 rs45 F45), (46, mkCall ps46 rs46 F46)] [] Tryz.f14 ps14 rs14
/-! 3 bowline/bowlinelaw01.WideTypes -/
abbrev ps3 : List SV := [.d false tS]
abbrev rs3 : Shape := ⟨[(0, .d false .bool)], []⟩
noncomputable def F3 (F9 : (SV.denL ps9) → Option (rs9).den) (F10 : (SV.denL ps10) → Option (rs10).den) (F11 : (SV.denL ps11) → Option (rs11).den) (F12 : (SV.denL ps12) → Option (rs12).den) (F13 : (SV.denL ps13) → Option (rs13).den) (F14 : (SV.denL ps14) → Option (rs14).den) (F15 : (SV.denL ps15) → Option (rs15).den) (F16 : (SV.denL ps16) → Option (rs16).den) : (SV.denL ps3) → Option (rs3).den := runFn tb [(9, mkCall ps9 rs9 F9), (10, mkCall ps10 rs10 F10), (11, mkCall ps11 rs11 F11), (12, mkCall ps12 rs12 F12), (13, mkCall ps13 rs13 F13), (14, mkCall ps14 rs14 F14), (15, mkCall ps15 rs15 F15), (16, mkCall ps16 rs16 F16)] [] Tryz.f3 ps3 rs3
/-! 27 bowline/bowlineref01.CheckInt -/
abbrev ps27 : List SV := [.d false tS]
abbrev rs27 : Shape := ⟨[(0, .d false tI)], []⟩
abbrev sh27_7 : Shape := ⟨[(3, .d false tS), (4, .d false tI)], []⟩
abbrev w27_7 : List Way := [(none, ⟨[(2, .d false tI)], []⟩), (some 0, ⟨[(3, .d false tS)], []⟩)]
noncomputable def S27_7 (F72 : (SV.denL ps72) → Option (rs72).den) : sh27_7.den → Option (sh27_7.den ⊕ denX w27_7) := stepFn tb [(72, mkCall ps72 rs72 F72)] [] (upTo 47) Tryz.f27 7 sh27_7 w27_7
noncomputable def F27 (F59 : (SV.denL ps59) → Option (rs59).den) (g27_7 : sh27_7.den → Option (denX w27_7)) : (SV.denL ps27) → Option (rs27).den := runFn tb [(59, mkCall ps59 rs59 F59)] [(7, lp sh27_7 w27_7 g27_7)] Tryz.f27 ps27 rs27
theorem call27 {F59 : (SV.denL ps59) → Option (rs59).den} {F72 : (SV.denL ps72) → Option (rs72).den} {g27_7 : sh27_7.den → Option (denX w27_7)} (h59 : CallOK Tryz.prog 59 (mkCall ps59 rs59 F59)) (h72 : CallOK Tryz.prog 72 (mkCall ps72 rs72 F72)) (hg27_7 : Lim (S27_7 F72) g27_7) : CallOK Tryz.prog 27 (mkCall ps27 rs27 (F27 F59 g27_7)) :=
  runFn_ok mixed tabOK (Δ := [(59, mkCall ps59 rs59 F59)]) ⟨.inl h59, trivial⟩ ⟨Tryz.func27, rfl, by kernel_rfl, by kernel_rfl, by kernel_rfl, by kernel_rfl⟩ rfl (loopsAt_zip (cs := [.loop (loopOf Tryz.f27 7)]) (by kernel_rfl) (by kernel_rfl) (by kernel_rfl) ⟨stepLim_ok mixed tabOK (Δ := [(72, mkCall ps72 rs72 F72)]) ⟨.inl h72, trivial⟩ hg27_7 (loopsAt_zip (Λ := []) (cs := []) (by kernel_rfl) (by kernel_rfl) (by kernel_rfl) trivial), trivial⟩)
/-! 51 bowline/bowlineref01.First -/
abbrev ps51 : List SV := [.d false (.sl tI)]
abbrev rs51 : Shape := ⟨[(0, .d false tI)], []⟩
abbrev sh51_2 : Shape := ⟨[(0, .d false (.sl tI)), (3, .d false tI)], []⟩
abbrev w51_2 : List Way := [(none, ⟨[(2, .d false tI)], []⟩), (some 0, ⟨[], []⟩)]
noncomputable def S51_2 : sh51_2.den → Option (sh51_2.den ⊕ denX w51_2) := stepFn tb [] [] (upTo 19) Tryz.f51 2 sh51_2 w51_2
noncomputable def F51 (g51_2 : sh51_2.den → Option (denX w51_2)) : (SV.denL ps51) → Option (rs51).den := runFn tb [] [(2, lp sh51_2 w51_2 g51_2)] Tryz.f51 ps51 rs51
theorem call51 {g51_2 : sh51_2.den → Option (denX w51_2)} (hg51_2 : Lim (S51_2) g51_2) : CallOK Tryz.prog 51 (mkCall ps51 rs51 (F51 g51_2)) :=
  runFn_ok mixed tabOK (Δ := []) trivial ⟨Tryz.func51, rfl, by kernel_rfl, by kernel_rfl, by kernel_rfl, by kernel_rfl⟩ rfl (loopsAt_zip (cs := [.loop (loopOf Tryz.f51 2)]) (by kernel_rfl) (by kernel_rfl) (by kernel_rfl) ⟨stepLim_ok mixed tabOK (Δ := []) trivial hg51_2 (loopsAt_zip (Λ := []) (cs := []) (by kernel_rfl) (by kernel_rfl) (by kernel_rfl) trivial), trivial⟩)
/-! 71 bowline/bowlineref01.result -/
abbrev ps71 : List SV := [.d true (.pr .bool (.sl tI))]
abbrev rs71 : Shape := ⟨[(0, .d false tS), (1, .d false tI)], []⟩
noncomputable def F71 (F46 : (SV.denL ps46) → Option (rs46).den) : (SV.denL ps71) → Option (rs71).den := runFn tb [(46, mkCall ps46 rs46 F46)] [] Tryz.f71 ps71 rs71
theorem call71 {F46 : (SV.denL ps46) → Option (rs46).den} (h46 : CallOK Tryz.prog 46 (mkCall ps46 rs46 F46)) : CallOK Tryz.prog 71 (mkCall ps71 rs71 (F71 F46)) :=
  runFn_ok mixed tabOK (Δ := [(46, mkCall ps46 rs46 F46)]) ⟨.inl h46, trivial⟩ ⟨Tryz.func71, rfl, by kernel_rfl, by kernel_rfl, by kernel_rfl, by kernel_rfl⟩ rfl (loopsAt_zip (Λ := []) (cs := []) (by kernel_rfl) (by kernel_rfl) (by kernel_rfl) trivial)
/-! 26 bowline/bowlineref01.Literal -/
abbrev ps26 : List SV := [.d false tS]
abbrev rs26 : Shape := ⟨[(0, .d false tS), (1, .d false tI)], []⟩
abbrev sh26_17 : Shape := ⟨[(0, .d false tS), (4, .d false tI), (5, .pt 0 0), (6, .d false tI)], [.box 79 [.d false .bool, .d false (.sl tI)]]⟩
abbrev w26_17 : List Way := [(none, ⟨[(2, .d false tS), (3, .d false tI)], []⟩), (some 1, ⟨[(0, .d false tS), (5, .pt 0 0)], [.box 79 [.d false .bool, .d false (.sl tI)]]⟩)]
noncomputable def F26 (F71 : (SV.denL ps71) → Option (rs71).den) (g26_17 : sh26_17.den → Option (denX w26_17)) : (SV.denL ps26) → Option (rs26).den := runFn tb [(71, mkCall ps71 rs71 F71)] [(17, lp sh26_17 w26_17 g26_17)] Tryz.f26 ps26 rs26
/-! 5 bowline/bowlinelaw01.WideLiterals -/
abbrev ps5 : List SV := [.d false tS]
abbrev rs5 : Shape := ⟨[(0, .d false .bool)], []⟩
noncomputable def F5 (F9 : (SV.denL ps9) → Option (rs9).den) (F10 : (SV.denL ps10) → Option (rs10).den) (F25 : (SV.denL ps25) → Option (rs25).den) (F26 : (SV.denL ps26) → Option (rs26).den) : (SV.denL ps5) → Option (rs5).den := runFn tb [(9, mkCall ps9 rs9 F9), (10, mkCall ps10 rs10 F10), (25, mkCall ps25 rs25 F25), (26, mkCall ps26 rs26 F26)] [] Tryz.f5 ps5 rs5
/-! 28 math/bits.Mul64 -/
abbrev ps28 : List SV := [.d false (.int .u64), .d false (.int .u64)]
abbrev rs28 : Shape := ⟨[(0, .d false (.int .u64)), (1, .d false (.int .u64))], []⟩
noncomputable def F28 : (SV.denL ps28) → Option (rs28).den := runFn tb [] [] Tryz.f28 ps28 rs28
theorem call28 : CallOK Tryz.prog 28 (mkCall ps28 rs28 (F28)) :=
  runFn_ok mixed tabOK (Δ := []) trivial ⟨Tryz.func28, rfl, by kernel_rfl, by kernel_rfl, by kernel_rfl, by kernel_rfl⟩ rfl (loopsAt_zip (Λ := []) (cs := []) (by kernel_rfl) (by kernel_rfl) (by kernel_rfl) trivial)
/-! 29 bowline/wide.Add -/
abbrev ps29 : List SV := [.d false tS, .d false tS]
abbrev rs29 : Shape := ⟨[(0, .d false tS), (1, .d false tI)], []⟩
noncomputable def F29 (F73 : (SV.denL ps73) → Option (rs73).den) : (SV.denL ps29) → Option (rs29).den := runFn tb [(73, mkCall ps73 rs73 F73)] [] Tryz.f29 ps29 rs29
theorem call29 {F73 : (SV.denL ps73) → Option (rs73).den} (h73 : CallOK Tryz.prog 73 (mkCall ps73 rs73 F73)) : CallOK Tryz.prog 29 (mkCall ps29 rs29 (F29 F73)) :=
  runFn_ok mixed tabOK (Δ := [(73, mkCall ps73 rs73 F73)]) ⟨.inl h73, trivial⟩ ⟨Tryz.func29, rfl, by kernel_rfl, by kernel_rfl, by kernel_rfl, by kernel_rfl⟩ rfl (loopsAt_zip (Λ := []) (cs := []) (by kernel_rfl) (by kernel_rfl) (by kernel_rfl) trivial)
/-! 30 bowline/wide.Sub -/
abbrev ps30 : List SV := [.d false tS, .d false tS]
abbrev rs30 : Shape := ⟨[(0, .d false tS), (1, .d false tI)], []⟩
noncomputable def F30 (F73 : (SV.denL ps73) → Option (rs73).den) : (SV.denL ps30) → Option (rs30).den := runFn tb [(73, mkCall ps73 rs73 F73)] [] Tryz.f30 ps30 rs30
theorem call30 {F73 : (SV.denL ps73) → Option (rs73).den} (h73 : CallOK Tryz.prog 73 (mkCall ps73 rs73 F73)) : CallOK Tryz.prog 30 (mkCall ps30 rs30 (F30 F73)) :=
  runFn_ok mixed tabOK (Δ := [(73, mkCall ps73 rs73 F73)]) ⟨.inl h73, trivial⟩ ⟨Tryz.func30, rfl, by kernel_rfl, by kernel_rfl, by kernel_rfl, by kernel_rfl⟩ rfl (loopsAt_zip (Λ := []) (cs := []) (by kernel_rfl) (by kernel_rfl) (by kernel_rfl) trivial)
/-! 32 bowline/wide.DivTrunc -/
abbrev ps32 : List SV := [.d false tS, .d false tS]
abbrev rs32 : Shape := ⟨[(0, .d false tS), (1, .d false tS), (2, .d false tI)], []⟩
noncomputable def F32 (F78 : (SV.denL ps78) → Option (rs78).den) : (SV.denL ps32) → Option (rs32).den := runFn tb [(78, mkCall ps78 rs78 F78)] [] Tryz.f32 ps32 rs32
theorem call32 {F78 : (SV.denL ps78) → Option (rs78).den} (h78 : CallOK Tryz.prog 78 (mkCall ps78 rs78 F78)) : CallOK Tryz.prog 32 (mkCall ps32 rs32 (F32 F78)) :=
  runFn_ok mixed tabOK (Δ := [(78, mkCall ps78 rs78 F78)]) ⟨.inl h78, trivial⟩ ⟨Tryz.func32, rfl, by kernel_rfl, by kernel_rfl, by kernel_rfl, by kernel_rfl⟩ rfl (loopsAt_zip (Λ := []) (cs := []) (by kernel_rfl) (by kernel_rfl) (by kernel_rfl) trivial)
/-! 34 bowline/bowlineref01.Add -/
abbrev ps34 : List SV := [.d false tS, .d false tS]
abbrev rs34 : Shape := ⟨[(0, .d false tS), (1, .d false tI)], []⟩
noncomputable def F34 (F27 : (SV.denL ps27) → Option (rs27).den) (F51 : (SV.denL ps51) → Option (rs51).den) (F52 : (SV.denL ps52) → Option (rs52).den) (F68 : (SV.denL ps68) → Option (rs68).den) (F71 : (SV.denL ps71) → Option (rs71).den) : (SV.denL ps34) → Option (rs34).den := runFn tb [(27, mkCall ps27 rs27 F27), (51, mkCall ps51 rs51 F51), (52, mkCall ps52 rs52 F52), (68, mkCall ps68 rs68 F68), (71, mkCall ps71 rs71 F71)] [] Tryz.f34 ps34 rs34
theorem call34 {F27 : (SV.denL ps27) → Option (rs27).den} {F51 : (SV.denL ps51) → Option (rs51).den} {F52 : (SV.denL ps52) → Option (rs52).den} {F68 : (SV.denL ps68) → Option (rs68).den} {F71 : (SV.denL ps71) → Option (rs71).den} (h27 : CallOK Tryz.prog 27 (mkCall ps27 rs27 F27)) (h51 : CallOK Tryz.prog 51 (mkCall ps51 rs51 F51)) (h52 : CallOK Tryz.prog 52 (mkCall ps52 rs52 F52)) (h68 : CallOK Tryz.prog 68 (mkCall ps68 rs68 F68)) (h71 : CallOK Tryz.prog 71 (mkCall ps71 rs71 F71)) : CallOK Tryz.prog 34 (mkCall ps34 rs34 (F34 F27 F51 F52 F68 F71)) :=
  runFn_ok mixed tabOK (Δ := [(27, mkCall ps27 rs27 F27), (51, mkCall ps51 rs51 F51), (52, mkCall ps52 rs52 F52), (68, mkCall ps68 rs68 F68), (71, mkCall ps71 rs71 F71)]) ⟨.inl h27, .inl h51, .inl h52, .inl h68, .inl h71, trivial⟩ ⟨Tryz.func34, rfl, by kernel_rfl, by kernel_rfl, by kernel_rfl, by kernel_rfl⟩ rfl (loopsAt_zip (Λ := []) (cs := []) (by kernel_rfl) (by kernel_rfl) (by kernel_rfl) trivial)
/-! 35 bowline/bowlineref01.Sub -/
abbrev ps35 : List SV := [.d false tS, .d false tS]
abbrev rs35 : Shape := ⟨[(0, .d false tS), (1, .d false tI)], []⟩
noncomputable def F35 (F27 : (SV.denL ps27) → Option (rs27).den) (F51 : (SV.denL ps51) → Option (rs51).den) (F52 : (SV.denL ps52) → Option (rs52).den) (F71 : (SV.denL ps71) → Option (rs71).den) (F82 : (SV.denL ps82) → Option (rs82).den) : (SV.denL ps35) → Option (rs35).den := runFn tb [(27, mkCall ps27 rs27 F27), (51, mkCall ps51 rs51 F51), (52, mkCall ps52 rs52 F52), (71, mkCall ps71 rs71 F71), (82, mkCall ps82 rs82 F82)] [] Tryz.f35 ps35 rs35
theorem call35 {F27 : (SV.denL ps27) → Option (rs27).den} {F51 : (SV.denL ps51) → Option (rs51).den} {F52 : (SV.denL ps52) → Option (rs52).den} {F71 : (SV.denL ps71) → Option (rs71).den} {F82 : (SV.denL ps82) → Option (rs82).den} (h27 : CallOK Tryz.prog 27 (mkCall ps27 rs27 F27)) (h51 : CallOK Tryz.prog 51 (mkCall ps51 rs51 F51)) (h52 : CallOK Tryz.prog 52 (mkCall ps52 rs52 F52)) (h71 : CallOK Tryz.prog 71 (mkCall ps71 rs71 F71)) (h82 : CallOK Tryz.prog 82 (mkCall ps82 rs82 F82)) : CallOK Tryz.prog 35 (mkCall ps35 rs35 (F35 F27 F51 F52 F71 F82)) :=
  runFn_ok mixed tabOK (Δ := [(27, mkCall ps27 rs27 F27), (51, mkCall ps51 rs51 F51), (52, mkCall ps52 rs52 F52), (71, mkCall ps71 rs71 F71), (82, mkCall ps82 rs82 F82)]) ⟨.inl h27, .inl h51, .inl h52, .inl h71, .inl h82, trivial⟩ ⟨Tryz.func35, rfl, by kernel_rfl, by kernel_rfl, by kernel_rfl, by kernel_rfl⟩ rfl (loopsAt_zip (Λ := []) (cs := []) (by kernel_rfl) (by kernel_rfl) (by kernel_rfl) trivial)
/-! 36 bowline/bowlineref01.Mul -/
abbrev ps36 : List SV := [.d false tS, .d false tS]
abbrev rs36 : Shape := ⟨[(0, .d false tS), (1, .d false tI)], []⟩
noncomputable def F36 (F27 : (SV.denL ps27) → Option (rs27).den) (F51 : (SV.denL ps51) → Option (rs51).den) (F52 : (SV.denL ps52) → Option (rs52).den) (F69 : (SV.denL ps69) → Option (rs69).den) (F71 : (SV.denL ps71) → Option (rs71).den) : (SV.denL ps36) → Option (rs36).den := runFn tb [(27, mkCall ps27 rs27 F27), (51, mkCall ps51 rs51 F51), (52, mkCall ps52 rs52 F52), (69, mkCall ps69 rs69 F69), (71, mkCall ps71 rs71 F71)] [] Tryz.f36 ps36 rs36
theorem call36 {F27 : (SV.denL ps27) → Option (rs27).den} {F51 : (SV.denL ps51) → Option (rs51).den} {F52 : (SV.denL ps52) → Option (rs52).den} {F69 : (SV.denL ps69) → Option (rs69).den} {F71 : (SV.denL ps71) → Option (rs71).den} (h27 : CallOK Tryz.prog 27 (mkCall ps27 rs27 F27)) (h51 : CallOK Tryz.prog 51 (mkCall ps51 rs51 F51)) (h52 : CallOK Tryz.prog 52 (mkCall ps52 rs52 F52)) (h69 : CallOK Tryz.prog 69 (mkCall ps69 rs69 F69)) (h71 : CallOK Tryz.prog 71 (mkCall ps71 rs71 F71)) : CallOK Tryz.prog 36 (mkCall ps36 rs36 (F36 F27 F51 F52 F69 F71)) :=
  runFn_ok mixed tabOK (Δ := [(27, mkCall ps27 rs27 F27), (51, mkCall ps51 rs51 F51), (52, mkCall ps52 rs52 F52), (69, mkCall ps69 rs69 F69), (71, mkCall ps71 rs71 F71)]) ⟨.inl h27, .inl h51, .inl h52, .inl h69, .inl h71, trivial⟩ ⟨Tryz.func36, rfl, by kernel_rfl, by kernel_rfl, by kernel_rfl, by kernel_rfl⟩ rfl (loopsAt_zip (Λ := []) (cs := []) (by kernel_rfl) (by kernel_rfl) (by kernel_rfl) trivial)
/-! 7 bowline/bowlinelaw01.WideModular -/
abbrev ps7 : List SV := [.d false tS, .d false tS, .d false tS]
abbrev rs7 : Shape := ⟨[(0, .d false .bool)], []⟩
abbrev sh7_13 : Shape := ⟨[(0, .d false tS), (1, .d false tS), (2, .d false tS), (10, .d false (.int .u64)), (112, .rf 0), (113, .d false tI), (114, .d false tI)], [.row (.int .u64) 36]⟩
abbrev w7_13 : List Way := [(none, ⟨[(6, .d false .bool)], []⟩), (some 0, ⟨[(1, .d false tS), (2, .d false tS)], []⟩)]
abbrev sh7_29 : Shape := ⟨[(1, .d false tS), (2, .d false tS), (184, .rf 0), (185, .d false tI), (186, .d false tI)], [.row .fv 55]⟩
abbrev w7_29 : List Way := [(none, ⟨[(6, .d false .bool)], []⟩), (some 2, ⟨[], []⟩)]
noncomputable def S7_13 (F9 : (SV.denL ps9) → Option (rs9).den) (F10 : (SV.denL ps10) → Option (rs10).den) (F11 : (SV.denL ps11) → Option (rs11).den) (F15 : (SV.denL ps15) → Option (rs15).den) (F21 : (SV.denL ps21) → Option (rs21).den) (F27 : (SV.denL ps27) → Option (rs27).den) (F28 : (SV.denL ps28) → Option (rs28).den) (F29 : (SV.denL ps29) → Option (rs29).den) (F30 : (SV.denL ps30) → Option (rs30).den) (F31 : (SV.denL ps31) → Option (rs31).den) (F32 : (SV.denL ps32) → Option (rs32).den) (F33 : (SV.denL ps33) → Option (rs33).den) (F34 : (SV.denL ps34) → Option (rs34).den) (F35 : (SV.denL ps35) → Option (rs35).den) (F36 : (SV.denL ps36) → Option (rs36).den) : sh7_13.den → Option (sh7_13.den ⊕ denX w7_13) := stepFn tb [(9, mkCall ps9 rs9 F9), (10, mkCall ps10 rs10 F10), (11, mkCall ps11 rs11 F11), (15, mkCall ps15 rs15 F15), (21, mkCall ps21 rs21 F21), (27, mkCall ps27 rs27 F27), (28, mkCall ps28 rs28 F28), (29, mkCall ps29 rs29 F29), (30, mkCall ps30 rs30 F30), (31, mkCall ps31 rs31 F31), (32, mkCall ps32 rs32 F32), (33, mkCall ps33 rs33 F33), (34, mkCall ps34 rs34 F34), (35, mkCall ps35 rs35 F35), (36, mkCall ps36 rs36 F36)] [] (upTo 243) Tryz.f7 13 sh7_13 w7_13
noncomputable def S7_29 (F9 : (SV.denL ps9) → Option (rs9).den) (F10 : (SV.denL ps10) → Option (rs10).den) (F11 : (SV.denL ps11) → Option (rs11).den) (F15 : (SV.denL ps15) → Option (rs15).den) (F21 : (SV.denL ps21) → Option (rs21).den) (F27 : (SV.denL ps27) → Option (rs27).den) (F28 : (SV.denL ps28) → Option (rs28).den) (F29 : (SV.denL ps29) → Option (rs29).den) (F30 : (SV.denL ps30) → Option (rs30).den) (F31 : (SV.denL ps31) → Option (rs31).den) (F32 : (SV.denL ps32) → Option (rs32).den) (F33 : (SV.denL ps33) → Option (rs33).den) (F34 : (SV.denL ps34) → Option (rs34).den) (F35 : (SV.denL ps35) → Option (rs35).den) (F36 : (SV.denL ps36) → Option (rs36).den) : sh7_29.den → Option (sh7_29.den ⊕ denX w7_29) := stepFn tb [(9, mkCall ps9 rs9 F9), (10, mkCall ps10 rs10 F10), (11, mkCall ps11 rs11 F11), (15, mkCall ps15 rs15 F15), (21, mkCall ps21 rs21 F21), (27, mkCall ps27 rs27 F27), (28, mkCall ps28 rs28 F28), (29, mkCall ps29 rs29 F29), (30, mkCall ps30 rs30 F30), (31, mkCall ps31 rs31 F31), (32, mkCall ps32 rs32 F32), (33, mkCall ps33 rs33 F33), (34, mkCall ps34 rs34 F34), (35, mkCall ps35 rs35 F35), (36, mkCall ps36 rs36 F36)] [] (upTo 243) Tryz.f7 29 sh7_29 w7_29
noncomputable def F7 (F9 : (SV.denL ps9) → Option (rs9).den) (F10 : (SV.denL ps10) → Option (rs10).den) (F11 : (SV.denL ps11) → Option (rs11).den) (F15 : (SV.denL ps15) → Option (rs15).den) (F21 : (SV.denL ps21) → Option (rs21).den) (F27 : (SV.denL ps27) → Option (rs27).den) (F28 : (SV.denL ps28) → Option (rs28).den) (F29 : (SV.denL ps29) → Option (rs29).den) (F31 : (SV.denL ps31) → Option (rs31).den) (g7_13 : sh7_13.den → Option (denX w7_13)) (g7_29 : sh7_29.den → Option (denX w7_29)) : (SV.denL ps7) → Option (rs7).den := runFn tb [(9, mkCall ps9 rs9 F9), (10, mkCall ps10 rs10 F10), (11, mkCall ps11 rs11 F11), (15, mkCall ps15 rs15 F15), (21, mkCall ps21 rs21 F21), (27, mkCall ps27 rs27 F27), (28, mkCall ps28 rs28 F28), (29, mkCall ps29 rs29 F29), (31, mkCall ps31 rs31 F31)] [(13, lp sh7_13 w7_13 g7_13), (29, lp sh7_29 w7_29 g7_29)] Tryz.f7 ps7 rs7
theorem call7 {F10 : (SV.denL ps10) → Option (rs10).den} {F11 : (SV.denL ps11) → Option (rs11).den} {F15 : (SV.denL ps15) → Option (rs15).den} {F21 : (SV.denL ps21) → Option (rs21).den} {F27 : (SV.denL ps27) → Option (rs27).den} {F28 : (SV.denL ps28) → Option (rs28).den} {F29 : (SV.denL ps29) → Option (rs29).den} {F30 : (SV.denL ps30) → Option (rs30).den} {F31 : (SV.denL ps31) → Option (rs31).den} {F32 : (SV.denL ps32) → Option (rs32).den} {F33 : (SV.denL ps33) → Option (rs33).den} {F34 : (SV.denL ps34) → Option (rs34).den} {F35 : (SV.denL ps35) → Option (rs35).den} {F36 : (SV.denL ps36) → Option (rs36).den} {F9 : (SV.denL ps9) → Option (rs9).den} {g7_13 : sh7_13.den → Option (denX w7_13)} {g7_29 : sh7_29.den → Option (denX w7_29)} (h10 : CallOK Tryz.prog 10 (mkCall ps10 rs10 F10)) (h11 : CallOK Tryz.prog 11 (mkCall ps11 rs11 F11)) (h15 : CallOK Tryz.prog 15 (mkCall ps15 rs15 F15)) (h21 : CallOK Tryz.prog 21 (mkCall ps21 rs21 F21)) (h27 : CallOK Tryz.prog 27 (mkCall ps27 rs27 F27)) (h28 : CallOK Tryz.prog 28 (mkCall ps28 rs28 F28)) (h29 : CallOK Tryz.prog 29 (mkCall ps29 rs29 F29)) (h30 : CallOK Tryz.prog 30 (mkCall ps30 rs30 F30)) (h31 : CallOK Tryz.prog 31 (mkCall ps31 rs31 F31)) (h32 : CallOK Tryz.prog 32 (mkCall ps32 rs32 F32)) (h33 : CallOK Tryz.prog 33 (mkCall ps33 rs33 F33)) (h34 : CallOK Tryz.prog 34 (mkCall ps34 rs34 F34)) (h35 : CallOK Tryz.prog 35 (mkCall ps35 rs35 F35)) (h36 : CallOK Tryz.prog 36 (mkCall ps36 rs36 F36)) (h9 : CallOK Tryz.prog 9 (mkCall ps9 rs9 F9)) (hg7_13 : Lim (S7_13 F9 F10 F11 F15 F21 F27 F28 F29 F30 F31 F32 F33 F34 F35 F36) g7_13) (hg7_29 : Lim (S7_29 F9 F10 F11 F15 F21 F27 F28 F29 F30 F31 F32 F33 F34 F35 F36) g7_29) : CallOK Tryz.prog 7 (mkCall ps7 rs7 (F7 F9 F10 F11 F15 F21 F27 F28 F29 F31 g7_13 g7_29)) :=
  runFn_ok mixed tabOK (Δ := [(9, mkCall ps9 rs9 F9), (10, mkCall ps10 rs10 F10), (11, mkCall ps11 rs11 F11), (15, mkCall ps15 rs15 F15), (21, mkCall ps21 rs21 F21), (27, mkCall ps27 rs27 F27), (28, mkCall ps28 rs28 F28), (29, mkCall ps29 rs29 F29), (31, mkCall ps31 rs31 F31)]) ⟨.inl h9, .inl h10, .inl h11, .inl h15, .inl h21, .inl h27, .inl h28, .inl h29, .inl h31, trivial⟩ ⟨Tryz.func7, rfl, by kernel_rfl, by kernel_rfl, by kernel_rfl, by kernel_rfl⟩ rfl (loopsAt_zip (cs := [.loop (loopOf Tryz.f7 13), .loop (loopOf Tryz.f7 29)]) (by kernel_rfl) (by kernel_rfl) (by kernel_rfl) ⟨stepLim_ok mixed tabOK (Δ := [(9, mkCall ps9 rs9 F9), (10, mkCall ps10 rs10 F10), (11, mkCall ps11 rs11 F11), (15, mkCall ps15 rs15 F15), (21, mkCall ps21 rs21 F21), (27, mkCall ps27 rs27 F27), (28, mkCall ps28 rs28 F28), (29, mkCall ps29 rs29 F29), (30, mkCall ps30 rs30 F30), (31, mkCall ps31 rs31 F31), (32, mkCall ps32 rs32 F32), (33, mkCall ps33 rs33 F33), (34, mkCall ps34 rs34 F34), (35, mkCall ps35 rs35 F35), (36, mkCall ps36 rs36 F36)]) ⟨.inl h9, .inl h10, .inl h11, .inl h15, .inl h21, .inl h27, .inl h28, .inl h29, .inl h30, .inl h31, .inl h32, .inl h33, .inl h34, .inl h35, .inl h36, trivial⟩ hg7_13 (loopsAt_zip (Λ := []) (cs := []) (by kernel_rfl) (by kernel_rfl) (by kernel_rfl) trivial), stepLim_ok mixed tabOK (Δ := [(9, mkCall ps9 rs9 F9), (10, mkCall ps10 rs10 F10), (11, mkCall ps11 rs11 F11), (15, mkCall ps15 rs15 F15), (21, mkCall ps21 rs21 F21), (27, mkCall ps27 rs27 F27), (28, mkCall ps28 rs28 F28), (29, mkCall ps29 rs29 F29), (30, mkCall ps30 rs30 F30), (31, mkCall ps31 rs31 F31), (32, mkCall ps32 rs32 F32), (33, mkCall ps33 rs33 F33), (34, mkCall ps34 rs34 F34), (35, mkCall ps35 rs35 F35), (36, mkCall ps36 rs36 F36)]) ⟨.inl h9, .inl h10, .inl h11, .inl h15, .inl h21, .inl h27, .inl h28, .inl h29, .inl h30, .inl h31, .inl h32, .inl h33, .inl h34, .inl h35, .inl h36, trivial⟩ hg7_29 (loopsAt_zip (Λ := []) (cs := []) (by kernel_rfl) (by kernel_rfl) (by kernel_rfl) trivial), trivial⟩)
end Go.Proofs.Rf
/- The functions, evaluated. -/
set_option linter.unusedVariables false
namespace Go.Proofs.Rf
open Go Go.RowKit
theorem S9_2_eq (t5 : List (List UInt8)) (t6 : Int) (t7 : Int) : S9_2 ((t5, t6, t7, ()), ()) = (
  if decide (t7 < t6) = true then
    if 0 ≤ t7 then
      if t7 < (↑t5.length : Int) then
        if decide ((↑(List.length (t5.getD t7.toNat [])) : Int) > 600) = true then
          some (Sum.inr (Sum.inl ((false, ()), ())))
        else some (Sum.inl ((t5, t6, IntKind.i64.wrap (t7 + 1), ()), ()))
      else none
    else none
  else some (Sum.inr (Sum.inr ((), ()))) : Option (sh9_2.den ⊕ denX w9_2)) := by kernel_rfl
theorem F9_eq (g9_2 : sh9_2.den → Option (denX w9_2)) (l0 : List (List UInt8)) : F9 g9_2 (l0, ()) = (
  (g9_2 ((l0, (↑l0.length : Int), 0, ()), ())).bind fun y =>
    Sum.elim (fun y => some ((y.1.1, ()), ())) (fun z => some ((true, ()), ())) y : Option rs9.den) := by kernel_rfl
theorem S89_2_eq (s0 : List UInt8) (it0s : List UInt8) (it0p : Nat) : S89_2 ((s0, (), ()), ((it0s, it0p), ())) = (
  if it0p < it0s.length then
    if decide ((↑(Utf8.decode { data := { toList := it0s } } it0p).1 : Int) < 48) = true then
      some (Sum.inr (Sum.inl ((false, ()), ())))
    else
      if decide ((↑(Utf8.decode { data := { toList := it0s } } it0p).1 : Int) > 57) = true then
        some (Sum.inr (Sum.inl ((false, ()), ())))
      else some (Sum.inl ((s0, (), ()), (it0s, it0p + (Utf8.decode { data := { toList := it0s } } it0p).2), ()))
  else some (Sum.inr (Sum.inr ((s0, ()), ()))) : Option (sh89_2.den ⊕ denX w89_2)) := by kernel_rfl
theorem F89_eq (g89_2 : sh89_2.den → Option (denX w89_2)) (s0 : List UInt8) : F89 g89_2 (s0, ()) = (
  (g89_2 ((s0, (), ()), (s0, 0), ())).bind fun y =>
    Sum.elim (fun y => some ((y.1.1, ()), ()))
      (fun z =>
        if (!z.1.1 == []) = true then
          if (z.1.1 == [(48 : UInt8)]) = true then some ((true, ()), ())
          else
            if 0 < (↑(List.length z.1.1) : Int) then
              some ((!(↑(List.getD z.1.1 0 (0 : UInt8)).toNat : Int) == 48, ()), ())
            else none
        else some ((false, ()), ()))
      y : Option rs89.den) := by kernel_rfl
theorem S121_10_eq (s05 : List UInt8) (n6 : Int) (t47 : List Int) (t48 : Int) (t49 : Int) : S121_10 ((s05, n6, t47, t48, t49, ()), ()) = (
  if decide (t49 < t48) = true then
    if 0 ≤ t49 then
      if t49 < (↑t47.length : Int) then
        if decide (IntKind.u8.wrap (t47.getD t49.toNat 0 - 48) > 9) = true then none
        else
          some
            (Sum.inl
              ((s05,
                  IntKind.i64.wrap
                    (IntKind.i64.wrap (n6 * 10) + IntKind.i64.wrap (IntKind.u8.wrap (t47.getD t49.toNat 0 - 48))),
                  t47, t48, IntKind.i64.wrap (t49 + 1), ()),
                ()))
      else none
    else none
  else some (Sum.inr ((s05, n6, ()), ())) : Option (sh121_10.den ⊕ denX w121_10)) := by kernel_rfl
theorem F121_eq (g121_10 : sh121_10.den → Option (denX w121_10)) (s0 : List UInt8) : F121 g121_10 (s0, ()) = (
  if decide (0 < (↑s0.length : Int)) = true then
    if decide ((↑s0.length : Int) < 19) = true then
      if 0 < (↑s0.length : Int) then
        if ((↑(s0.getD 0 (0 : UInt8)).toNat : Int) == 45) = true then
          if 1 ≤ (↑s0.length : Int) then
            if (↑s0.length : Int) ≤ (↑s0.length : Int) then
              if decide ((↑(List.drop 1 s0).length : Int) < 1) = true then none
              else
                if (List.drop 1 s0).length ≤ 4294967296 then
                  (g121_10
                        ((s0, 0, List.map (fun b => (↑b.toNat : Int)) (List.drop 1 s0),
                            (↑(List.map (fun b => (↑b.toNat : Int)) (List.drop 1 s0)).length : Int), 0, ()),
                          ())).bind
                    fun y =>
                    if 0 < (↑(List.length y.1.1) : Int) then
                      if ((↑(List.getD y.1.1 0 (0 : UInt8)).toNat : Int) == 45) = true then
                        some ((IntKind.i64.wrap (0 - y.1.2.1), true, ()), ())
                      else some ((y.1.2.1, true, ()), ())
                    else none
                else none
            else none
          else none
        else
          if 0 < (↑s0.length : Int) then
            if ((↑(s0.getD 0 (0 : UInt8)).toNat : Int) == 43) = true then
              if 1 ≤ (↑s0.length : Int) then
                if (↑s0.length : Int) ≤ (↑s0.length : Int) then
                  if decide ((↑(List.drop 1 s0).length : Int) < 1) = true then none
                  else
                    if (List.drop 1 s0).length ≤ 4294967296 then
                      (g121_10
                            ((s0, 0, List.map (fun b => (↑b.toNat : Int)) (List.drop 1 s0),
                                (↑(List.map (fun b => (↑b.toNat : Int)) (List.drop 1 s0)).length : Int), 0, ()),
                              ())).bind
                        fun y =>
                        if 0 < (↑(List.length y.1.1) : Int) then
                          if ((↑(List.getD y.1.1 0 (0 : UInt8)).toNat : Int) == 45) = true then
                            some ((IntKind.i64.wrap (0 - y.1.2.1), true, ()), ())
                          else some ((y.1.2.1, true, ()), ())
                        else none
                    else none
                else none
              else none
            else
              if s0.length ≤ 4294967296 then
                (g121_10
                      ((s0, 0, List.map (fun b => (↑b.toNat : Int)) s0,
                          (↑(List.map (fun b => (↑b.toNat : Int)) s0).length : Int), 0, ()),
                        ())).bind
                  fun y =>
                  if 0 < (↑(List.length y.1.1) : Int) then
                    if ((↑(List.getD y.1.1 0 (0 : UInt8)).toNat : Int) == 45) = true then
                      some ((IntKind.i64.wrap (0 - y.1.2.1), true, ()), ())
                    else some ((y.1.2.1, true, ()), ())
                  else none
              else none
          else none
      else none
    else none
  else none : Option rs121.den) := by kernel_rfl
theorem F90_eq (F121 : (SV.denL ps121) → Option (rs121).den) (s0 : List UInt8) : F90 F121 (s0, ()) = (
  (F121 (s0, ())).bind fun y => if (!y.1.2.1) = true then none else some ((y.1.1, true, ()), ()) : Option rs90.den) := by kernel_rfl
theorem F42_eq (F89 : (SV.denL ps89) → Option (rs89).den) (F90 : (SV.denL ps90) → Option (rs90).den) (typ0 : List UInt8) : F42 F89 F90 (typ0, ()) = (
  if (!typ0 == []) = true then
    if 1 ≤ (↑typ0.length : Int) then
      if 1 ≤ (↑typ0.length : Int) then
        if (↑typ0.length : Int) ≤ (↑typ0.length : Int) then
          if
              (!(lookM Ty.str Ty.bool
                      [([(117 : UInt8)], false), ([(105 : UInt8)], true)]
                      (List.take 1 typ0)).isSome) =
                true then
            some ((((0, false), []), 6, ()), ())
          else
            (F89 (List.drop 1 typ0, ())).bind fun y =>
              if (!y.1.1) = true then some ((((0, false), []), 6, ()), ())
              else
                if decide ((↑(List.drop 1 typ0).length : Int) > 3) = true then some ((((0, false), []), 6, ()), ())
                else
                  (F90 (List.drop 1 typ0, ())).bind fun y =>
                    if decide (y.1.1 > 64) = true then some ((((0, false), []), 3, ()), ())
                    else
                      if
                          (y.1.1 == 0 &&
                              ((lookM Ty.str Ty.bool
                                        [([(117 : UInt8)], false),
                                          ([(105 : UInt8)], true)]
                                        (List.take 1 typ0)).getD
                                    false ==
                                  true &&
                                true)) =
                            true then
                        some ((((0, false), []), 3, ()), ())
                      else
                        some
                          ((((y.1.1,
                                  (lookM Ty.str Ty.bool
                                        [([(117 : UInt8)], false),
                                          ([(105 : UInt8)], true)]
                                        (List.take 1 typ0)).getD
                                    false),
                                typ0),
                              0, ()),
                            ())
        else none
      else none
    else none
  else some ((((0, false), []), 6, ()), ()) : Option rs42.den) := by kernel_rfl
theorem F11_eq (F42 : (SV.denL ps42) → Option (rs42).den) (typ0 : List UInt8) : F11 F42 (typ0, ()) = (
  (F42 (typ0, ())).bind fun y => some ((y.1.1.1.1, y.1.1.1.2, y.1.2.1, ()), ()) : Option rs11.den) := by kernel_rfl
theorem F57_eq (n0 : Int) : F57 (n0, ()) = (
  if n0 < 0 then none else some ((IntKind.u64.wrap (IntKind.u64.wrap (1 * 2 ^ min n0.toNat 64) - 1), ()), ()) : Option rs57.den) := by kernel_rfl
theorem F15_eq (F42 : (SV.denL ps42) → Option (rs42).den) (typ0 : List UInt8) : F15 F42 (typ0, ()) = (
  (F42 (typ0, ())).bind fun y => some ((y.1.2.1, ()), ()) : Option rs15.den) := by kernel_rfl
theorem S55_2_eq (t5 : List Int) (t6 : Int) (t7 : Int) : S55_2 ((t5, t6, t7, ()), ()) = (
  if decide (t7 < t6) = true then
    if 0 ≤ t7 then
      if t7 < (↑t5.length : Int) then
        if (!t5.getD t7.toNat 0 == 0) = true then some (Sum.inr (Sum.inl ((t5.getD t7.toNat 0, ()), ())))
        else some (Sum.inl ((t5, t6, IntKind.i64.wrap (t7 + 1), ()), ()))
      else none
    else none
  else some (Sum.inr (Sum.inr ((), ()))) : Option (sh55_2.den ⊕ denX w55_2)) := by kernel_rfl
theorem F55_eq (g55_2 : sh55_2.den → Option (denX w55_2)) (l0 : List Int) : F55 g55_2 (l0, ()) = (
  (g55_2 ((l0, (↑l0.length : Int), 0, ()), ())).bind fun y =>
    Sum.elim (fun y => some ((y.1.1, ()), ())) (fun z => some ((0, ()), ())) y : Option rs55.den) := by kernel_rfl
theorem F56_eq (is0 : Bool) (e1 : Int) : F56 (is0, e1, ()) = (
  if is0 = true then some ((e1, ()), ()) else some ((0, ()), ()) : Option rs56.den) := by kernel_rfl
theorem F100_eq (s0 : List UInt8) (prefix1 : List UInt8) : F100 (s0, prefix1, ()) = (
  if decide ((↑s0.length : Int) ≥ (↑prefix1.length : Int)) = true then
    if (↑prefix1.length : Int) ≤ (↑s0.length : Int) then
      some ((List.take (↑prefix1.length : Int).toNat s0 == prefix1, ()), ())
    else none
  else some ((false, ()), ()) : Option rs100.den) := by kernel_rfl
theorem F120_eq (F100 : (SV.denL ps100) → Option (rs100).den) (s0 : List UInt8) (prefix1 : List UInt8) : F120 F100 (s0, prefix1, ()) = (
  (F100 (s0, prefix1, ())).bind fun y =>
    if (!y.1.1) = true then some ((s0, false, ()), ())
    else
      if (↑prefix1.length : Int) ≤ (↑s0.length : Int) then
        if (↑s0.length : Int) ≤ (↑s0.length : Int) then some ((List.drop (↑prefix1.length : Int).toNat s0, true, ()), ())
        else none
      else none : Option rs120.den) := by kernel_rfl
theorem F88_eq (F120 : (SV.denL ps120) → Option (rs120).den) (s0 : List UInt8) (prefix1 : List UInt8) : F88 F120 (s0, prefix1, ()) = (
  (F120 (s0, prefix1, ())).bind fun y => some ((y.1.1, y.1.2.1, ()), ()) : Option rs88.den) := by kernel_rfl
theorem F41_eq (F55 : (SV.denL ps55) → Option (rs55).den) (F56 : (SV.denL ps56) → Option (rs56).den) (F88 : (SV.denL ps88) → Option (rs88).den) (F89 : (SV.denL ps89) → Option (rs89).den) (s0 : List UInt8) : F41 F55 F56 F88 F89 (s0, ()) = (
  (F88 (s0, [(45 : UInt8)], ())).bind fun y =>
    (F89 (y.1.1, ())).bind fun y_1 =>
      if (!y_1.1.1) = true then
        (F56 (true, 1, ())).bind fun y_2 =>
          (F56 (decide ((↑(List.length y.1.1) : Int) > 100), 4, ())).bind fun y =>
            (F55 ([y_2.1.1, y.1.1], ())).bind fun y => some ((y.1.1, ()), ())
      else
        if y.1.2.1 = true then
          (F56 (y.1.1 == [(48 : UInt8)], 1, ())).bind fun y_2 =>
            (F56 (decide ((↑(List.length y.1.1) : Int) > 100), 4, ())).bind fun y =>
              (F55 ([y_2.1.1, y.1.1], ())).bind fun y => some ((y.1.1, ()), ())
        else
          (F56 (false, 1, ())).bind fun y_2 =>
            (F56 (decide ((↑(List.length y.1.1) : Int) > 100), 4, ())).bind fun y =>
              (F55 ([y_2.1.1, y.1.1], ())).bind fun y => some ((y.1.1, ()), ()) : Option rs41.den) := by kernel_rfl
theorem S101_1_eq (l0 : List Int) : S101_1 ((l0, ()), ()) = (
  if decide ((↑l0.length : Int) > 0) = true then
    if 0 ≤ IntKind.i64.wrap ((↑l0.length : Int) - 1) then
      if IntKind.i64.wrap ((↑l0.length : Int) - 1) < (↑l0.length : Int) then
        if (l0.getD (IntKind.i64.wrap ((↑l0.length : Int) - 1)).toNat 0 == 0) = true then
          if 0 ≤ IntKind.i64.wrap ((↑l0.length : Int) - 1) then
            if IntKind.i64.wrap ((↑l0.length : Int) - 1) ≤ (↑l0.length : Int) then
              some (Sum.inl ((List.take (IntKind.i64.wrap ((↑l0.length : Int) - 1)).toNat l0, ()), ()))
            else none
          else none
        else some (Sum.inr ((l0, ()), ()))
      else none
    else none
  else some (Sum.inr ((l0, ()), ())) : Option (sh101_1.den ⊕ denX w101_1)) := by kernel_rfl
theorem F101_eq (g101_1 : sh101_1.den → Option (denX w101_1)) (l0 : List Int) : F101 g101_1 (l0, ()) = (
  (g101_1 ((l0, ()), ())).bind fun y => some ((y.1.1, ()), ()) : Option rs101.den) := by kernel_rfl
theorem F115_eq (F101 : (SV.denL ps101) → Option (rs101).den) (n0_0 : Bool) (n0_1 : List Int) : F115 F101 ((n0_0, n0_1), ()) = (
  (F101 (n0_1, ())).bind fun y =>
    if n0_0 = true then some (((decide ((↑(List.length y.1.1) : Int) > 0), y.1.1), ()), ())
    else some (((false, y.1.1), ()), ()) : Option rs115.den) := by kernel_rfl
theorem F118_eq (s0 : List UInt8) : F118 (s0, ()) = (
  some ((((), ()), ()), (s0, ()), ()) : Option rs118.den) := by kernel_rfl
theorem S81_4_eq (F90 : (SV.denL ps90) → Option (rs90).den) (e : List UInt8) (b0_0 : Bool) (b0_1 : List Int) (b1_0 : Bool) (rw2 : List Int) : S81_4 F90 e (((), (), ()), ((b0_0, b0_1, ()), (b1_0, (), ()), rw2, ())) = (
  (F90 (e, ())).bind fun y =>
    if rw2.length + [IntKind.u32.wrap y.1.1].length ≤ 4294967296 then
      some (Sum.inl (((), (), ()), (b0_0, b0_1, ()), (b1_0, (), ()), rw2 ++ [IntKind.u32.wrap y.1.1], ()))
    else none : Option (sh81_4.den ⊕ denX w81_4)) := by kernel_rfl
theorem F81_eq (F88 : (SV.denL ps88) → Option (rs88).den) (F115 : (SV.denL ps115) → Option (rs115).den) (F118 : (SV.denL ps118) → Option (rs118).den) (D142 : Dt142) (g81_4 : List El142 → sh81_4.den → Option (sh81_4.den ⊕ denX w81_4)) (s0 : List UInt8) : F81 F88 F115 F118 D142 g81_4 (s0, ()) = (
  (F88 (s0, [(45 : UInt8)], ())).bind fun y =>
    (F118 (y.1.1, ())).bind fun y_1 =>
      (D142 (((), ()), (y_1.2.1.1, ()), ())).bind fun xs =>
        (g81_4 xs (((), (), ()), (false, [], ()), (y.1.2.1, (), ()), [], ())).bind fun y =>
          Sum.elim (fun x' => (F115 ((x'.2.2.1.1, x'.2.2.2.1), ())).bind fun y => some (((y.1.1.1, y.1.1.2), ()), ()))
            (fun z => none) y : Option rs81.den) := by kernel_rfl
theorem F47_eq (F41 : (SV.denL ps41) → Option (rs41).den) (F42 : (SV.denL ps42) → Option (rs42).den) (F55 : (SV.denL ps55) → Option (rs55).den) (F81 : (SV.denL ps81) → Option (rs81).den) (typ0 : List UInt8) (s1 : List UInt8) : F47 F41 F42 F55 F81 (typ0, s1, ()) = (
  (F42 (typ0, ())).bind fun y =>
    (F41 (s1, ())).bind fun y_1 =>
      (F55 ([y.1.2.1, y_1.1.1], ())).bind fun y_2 =>
        if (!y_2.1.1 == 0) = true then some (((0, false), (false, []), y_2.1.1, ()), ())
        else (F81 (s1, ())).bind fun y_3 => some (((y.1.1.1.1, y.1.1.1.2), (y_3.1.1.1, y_3.1.1.2), 0, ()), ()) : Option rs47.den) := by kernel_rfl
theorem F148_eq (x0 : Int) : F148 (x0, ()) = (
  some ((!x0 == x0, ()), ()) : Option rs148.den) := by kernel_rfl
theorem F123_eq (F148 : (SV.denL ps148) → Option (rs148).den) (x0 : Int) (y1 : Int) : F123 F148 (x0, y1, ()) = (
  (F148 (x0, ())).bind fun y =>
    (F148 (y1, ())).bind fun y_1 =>
      if y.1.1 = true then if y_1.1.1 = true then some ((0, ()), ()) else some ((-1, ()), ())
      else
        if y_1.1.1 = true then some ((1, ()), ())
        else
          if decide (x0 < y1) = true then some ((-1, ()), ())
          else if decide (x0 > y1) = true then some ((1, ()), ()) else some ((0, ()), ()) : Option rs123.den) := by kernel_rfl
theorem F149_eq (x0 : Int) : F149 (x0, ()) = (
  some ((!x0 == x0, ()), ()) : Option rs149.den) := by kernel_rfl
theorem F124_eq (F149 : (SV.denL ps149) → Option (rs149).den) (x0 : Int) (y1 : Int) : F124 F149 (x0, y1, ()) = (
  (F149 (x0, ())).bind fun y =>
    (F149 (y1, ())).bind fun y_1 =>
      if y.1.1 = true then if y_1.1.1 = true then some ((0, ()), ()) else some ((-1, ()), ())
      else
        if y_1.1.1 = true then some ((1, ()), ())
        else
          if decide (x0 < y1) = true then some ((-1, ()), ())
          else if decide (x0 > y1) = true then some ((1, ()), ()) else some ((0, ()), ()) : Option rs124.den) := by kernel_rfl
theorem S94_5_eq (F124 : (SV.denL ps124) → Option (rs124).den) (a0 : List Int) (b1 : List Int) (i6 : Int) : S94_5 F124 ((a0, b1, i6, ()), ()) = (
  if decide (i6 ≥ 0) = true then
    if 0 ≤ i6 then
      if i6 < (↑a0.length : Int) then
        if 0 ≤ i6 then
          if i6 < (↑b1.length : Int) then
            (F124 (a0.getD i6.toNat 0, b1.getD i6.toNat 0, ())).bind fun y =>
              if (!y.1.1 == 0) = true then some (Sum.inr (Sum.inl ((y.1.1, ()), ())))
              else some (Sum.inl ((a0, b1, IntKind.i64.wrap (i6 - 1), ()), ()))
          else none
        else none
      else none
    else none
  else some (Sum.inr (Sum.inr ((), ()))) : Option (sh94_5.den ⊕ denX w94_5)) := by kernel_rfl
theorem F94_eq (F123 : (SV.denL ps123) → Option (rs123).den) (g94_5 : sh94_5.den → Option (denX w94_5)) (a0 : List Int) (b1 : List Int) : F94 F123 g94_5 (a0, b1, ()) = (
  (F123 ((↑a0.length : Int), (↑b1.length : Int), ())).bind fun y =>
    if (!y.1.1 == 0) = true then some ((y.1.1, ()), ())
    else
      (g94_5 ((a0, b1, IntKind.i64.wrap ((↑a0.length : Int) - 1), ()), ())).bind fun y =>
        Sum.elim (fun y => some ((y.1.1, ()), ())) (fun z => some ((0, ()), ())) y : Option rs94.den) := by kernel_rfl
theorem F95_eq (s0 : List Int) : F95 (s0, ()) = (
  some ((((), ()), ()), (s0, ()), ()) : Option rs95.den) := by kernel_rfl
theorem S50_3_eq (e0 : Int) (e1 : Int) (b0_0 : Int) (b0_1 : Bool) (b1_0 : Bool) (b1_1 : List Int) (b2_0 : Int) : S50_3 (e0, e1) (((), (), (), ()), ((b0_0, b0_1, ()), (b1_0, b1_1, ()), (b2_0, ()), ())) = (
  some
    (Sum.inl
      (((), (), (), ()), (b0_0, b0_1, ()), (b1_0, b1_1, ()),
        (IntKind.u64.wrap (IntKind.u64.wrap (b2_0 * 1000000000) + IntKind.u64.wrap e1), ()), ())) : Option (sh50_3.den ⊕ denX w50_3)) := by kernel_rfl
theorem F50_eq (F57 : (SV.denL ps57) → Option (rs57).den) (F95 : (SV.denL ps95) → Option (rs95).den) (D125 : Dt125) (g50_3 : List El125 → sh50_3.den → Option (sh50_3.den ⊕ denX w50_3)) (t0_0 : Int) (t0_1 : Bool) (n1_0 : Bool) (n1_1 : List Int) : F50 F57 F95 D125 g50_3 ((t0_0, t0_1), (n1_0, n1_1), ()) = (
  (F95 (n1_1, ())).bind fun y =>
    (D125 (((), ()), (y.2.1.1, ()), ())).bind fun xs =>
      (g50_3 xs (((), (), (), ()), (t0_0, t0_1, ()), (n1_0, n1_1, ()), (0, ()), ())).bind fun y =>
        Sum.elim
          (fun x' =>
            if x'.2.2.1.1 = true then
              (F57 (x'.2.1.1, ())).bind fun y =>
                some ((bitop BinOp.and IntKind.u64 (IntKind.u64.wrap (0 - x'.2.2.2.1.1)) y.1.1, ()), ())
            else (F57 (x'.2.1.1, ())).bind fun y => some ((bitop BinOp.and IntKind.u64 x'.2.2.2.1.1 y.1.1, ()), ()))
          (fun z => none) y : Option rs50.den) := by kernel_rfl
theorem F21_eq (F47 : (SV.denL ps47) → Option (rs47).den) (F50 : (SV.denL ps50) → Option (rs50).den) (typ0 : List UInt8) (s1 : List UInt8) : F21 F47 F50 (typ0, s1, ()) = (
  (F47 (typ0, s1, ())).bind fun y =>
    if (!y.1.2.2.1 == 0) = true then some ((0, y.1.2.2.1, ()), ())
    else (F50 ((y.1.1.1, y.1.1.2), (y.1.2.1.1, y.1.2.1.2), ())).bind fun y => some ((y.1.1, 0, ()), ()) : Option rs21.den) := by kernel_rfl
theorem F103_eq (F104 : (SV.denL ps104) → Option (rs104).den) (F105 : (SV.denL ps105) → Option (rs105).den) (limb0 : Int) : F103 F104 F105 (limb0, ()) = (
  (F104 (IntKind.i64.wrap limb0, ())).bind fun y =>
    (F105 ([(48 : UInt8)], IntKind.i64.wrap (9 - (↑(List.length y.1.1) : Int)), ())).bind
      fun y_1 => if List.length y_1.1.1 + List.length y.1.1 ≤ 4294967296 then some ((y_1.1.1 ++ y.1.1, ()), ()) else none : Option rs103.den) := by kernel_rfl
theorem S102_3_eq (F103 : (SV.denL ps103) → Option (rs103).den) (l0 : List Int) (f1 : Int) (t11 : Int) (t12 : Int) (rw0 : List (List UInt8)) : S102_3 F103 ((l0, f1, (), t11, t12, ()), (rw0, ())) = (
  if decide (t12 < t11) = true then
    if 0 ≤ t12 then
      if t12 < (↑l0.length : Int) then
        if f1 = (↑30 : Int) then none
        else
          if f1 = (↑31 : Int) then none
          else
            if f1 = (↑32 : Int) then none
            else
              if f1 = (↑33 : Int) then none
              else
                if f1 = (↑34 : Int) then none
                else
                  if f1 = (↑35 : Int) then none
                  else
                    if f1 = (↑36 : Int) then none
                    else
                      if f1 = (↑37 : Int) then none
                      else
                        if f1 = (↑75 : Int) then none
                        else
                          if f1 = (↑76 : Int) then none
                          else
                            if f1 = (↑78 : Int) then none
                            else
                              if f1 = (↑80 : Int) then none
                              else
                                if f1 = (↑81 : Int) then none
                                else
                                  if f1 = (↑104 : Int) then
                                    (F103 (l0.getD t12.toNat 0, ())).bind fun y =>
                                      if 0 ≤ t12 then
                                        if t12 < (↑rw0.length : Int) then
                                          some
                                            (Sum.inl
                                              ((l0, f1, (), t11, IntKind.i64.wrap (t12 + 1), ()), rw0.set t12.toNat y.1.1,
                                                ()))
                                        else none
                                      else none
                                  else if f1 = (↑200 : Int) then none else if f1 = (↑201 : Int) then none else none
      else none
    else none
  else some (Sum.inr (((), ()), rw0, ())) : Option (sh102_3.den ⊕ denX w102_3)) := by kernel_rfl
theorem F102_eq (g102_3 : sh102_3.den → Option (denX w102_3)) (l0 : List Int) (f1 : Int) : F102 g102_3 (l0, f1, ()) = (
  if (↑l0.length : Int) ≤ (↑l0.length : Int) then
    if (↑l0.length : Int) ≤ ((4294967296 : Nat) : Int) then
      (g102_3 ((l0, f1, (), (↑l0.length : Int), 0, ()), List.replicate (↑l0.length : Int).toNat [], ())).bind fun y =>
        some (((), ()), y.2.1, ())
    else none
  else none : Option rs102.den) := by kernel_rfl
theorem S106_1_eq (i2 : Int) (j3 : Int) (rw0 : List (List UInt8)) : S106_1 (((), i2, j3, ()), (rw0, ())) = (
  if decide (i2 < j3) = true then
    if 0 ≤ j3 then
      if j3 < (↑rw0.length : Int) then
        if 0 ≤ i2 then
          if i2 < (↑rw0.length : Int) then
            if 0 ≤ i2 then
              if i2 < (↑rw0.length : Int) then
                if 0 ≤ j3 then
                  if j3 < (↑(rw0.set i2.toNat (rw0.getD j3.toNat [])).length : Int) then
                    some
                      (Sum.inl
                        (((), IntKind.i64.wrap (i2 + 1), IntKind.i64.wrap (j3 - 1), ()),
                          (rw0.set i2.toNat (rw0.getD j3.toNat [])).set j3.toNat (rw0.getD i2.toNat []), ()))
                  else none
                else none
              else none
            else none
          else none
        else none
      else none
    else none
  else some (Sum.inr (((), ()), rw0, ())) : Option (sh106_1.den ⊕ denX w106_1)) := by kernel_rfl
theorem F106_eq (g106_1 : sh106_1.den → Option (denX w106_1)) (rw0 : List (List UInt8)) : F106 g106_1 (((), ()), (rw0, ())) = (
  ((g106_1 (((), 0, IntKind.i64.wrap ((↑rw0.length : Int) - 1), ()), rw0, ())).bind fun y =>
        some (((), ()), y.2.1, ())).bind
    fun z => some z : Option rs106.den) := by kernel_rfl
theorem S136_1_eq (s0 : List UInt8) (c1 : Int) : S136_1 ((s0, c1, ()), ()) = (
  if decide ((↑s0.length : Int) > 0) = true then
    if 0 < (↑s0.length : Int) then
      if ((↑(s0.getD 0 (0 : UInt8)).toNat : Int) == c1) = true then
        if 1 ≤ (↑s0.length : Int) then
          if (↑s0.length : Int) ≤ (↑s0.length : Int) then some (Sum.inl ((List.drop 1 s0, c1, ()), ())) else none
        else none
      else some (Sum.inr ((s0, ()), ()))
    else none
  else some (Sum.inr ((s0, ()), ())) : Option (sh136_1.den ⊕ denX w136_1)) := by kernel_rfl
theorem F136_eq (g136_1 : sh136_1.den → Option (denX w136_1)) (s0 : List UInt8) (c1 : Int) : F136 g136_1 (s0, c1, ()) = (
  (g136_1 ((s0, c1, ()), ())).bind fun y => some ((y.1.1, ()), ()) : Option rs136.den) := by kernel_rfl
theorem F107_eq (F136 : (SV.denL ps136) → Option (rs136).den) (s0 : List UInt8) (cutset1 : List UInt8) : F107 F136 (s0, cutset1, ()) = (
  if (s0 == []) = true then some ((s0, ()), ())
  else
    if (cutset1 == []) = true then some ((s0, ()), ())
    else
      if ((↑cutset1.length : Int) == 1) = true then
        if 0 < (↑cutset1.length : Int) then
          if decide ((↑(cutset1.getD 0 (0 : UInt8)).toNat : Int) < 128) = true then
            if 0 < (↑cutset1.length : Int) then
              (F136 (s0, (↑(cutset1.getD 0 (0 : UInt8)).toNat : Int), ())).bind fun y =>
                some ((y.1.1, ()), ())
            else none
          else none
        else none
      else none : Option rs107.den) := by kernel_rfl
theorem F66_eq (F102 : (SV.denL ps102) → Option (rs102).den) (F106 : (psh106.den) → Option (rs106).den) (F107 : (SV.denL ps107) → Option (rs107).den) (F108 : (SV.denL ps108) → Option (rs108).den) (n0_0 : Bool) (n0_1 : List Int) : F66 F102 F106 F107 F108 ((n0_0, n0_1), ()) = (
  if ((↑n0_1.length : Int) == 0) = true then some (([(48 : UInt8)], 0, ()), ())
  else
    (F102 (n0_1, (↑104 : Int), ())).bind fun y =>
      (F106 (((), ()), y.2.1, ())).bind fun z =>
        (F108 (z.2.1, [], ())).bind fun y =>
          (F107 (y.1.1, [(48 : UInt8)], ())).bind fun y =>
            if decide ((↑(List.length y.1.1) : Int) > 100) = true then some (([], 4, ()), ())
            else
              if n0_0 = true then
                if 1 + List.length y.1.1 ≤ 4294967296 then
                  some (([(45 : UInt8)] ++ y.1.1, 0, ()), ())
                else none
              else some ((y.1.1, 0, ()), ()) : Option rs66.den) := by kernel_rfl
theorem S65_4_eq (factor1 : Int) (rest8 : Int) (t19 : List Int) (t20 : Int) (t21 : Int) (rw0 : List Int) : S65_4 ((factor1, (), rest8, t19, t20, t21, ()), (rw0, ())) = (
  if decide (t21 < t20) = true then
    if 0 ≤ t21 then
      if t21 < (↑t19.length : Int) then
        if 0 ≤ t21 then
          if t21 < (↑rw0.length : Int) then
            some
              (Sum.inl
                ((factor1, (),
                    IntKind.u64.wrap
                      ((IntKind.u64.wrap
                            (rest8 +
                              IntKind.u64.wrap (IntKind.u64.wrap (t19.getD t21.toNat 0) * IntKind.u64.wrap factor1))).tdiv
                        1000000000),
                    t19, t20, IntKind.i64.wrap (t21 + 1), ()),
                  rw0.set t21.toNat
                    (IntKind.u32.wrap
                      ((IntKind.u64.wrap
                            (rest8 +
                              IntKind.u64.wrap (IntKind.u64.wrap (t19.getD t21.toNat 0) * IntKind.u64.wrap factor1))).tmod
                        1000000000)),
                  ()))
          else none
        else none
      else none
    else none
  else some (Sum.inr (((), rest8, ()), rw0, ())) : Option (sh65_4.den ⊕ denX w65_4)) := by kernel_rfl
theorem F65_eq (F101 : (SV.denL ps101) → Option (rs101).den) (g65_4 : sh65_4.den → Option (denX w65_4)) (l0 : List Int) (factor1 : Int) (carry2 : Int) : F65 F101 g65_4 (l0, factor1, carry2, ()) = (
  if (↑l0.length : Int) ≤ IntKind.i64.wrap ((↑l0.length : Int) + 1) then
    if IntKind.i64.wrap ((↑l0.length : Int) + 1) ≤ ((4294967296 : Nat) : Int) then
      (g65_4
            ((factor1, (), IntKind.u64.wrap carry2, l0, (↑l0.length : Int), 0, ()),
              List.replicate (↑l0.length : Int).toNat 0, ())).bind
        fun y =>
        if List.length y.2.1 + [IntKind.u32.wrap y.1.2.1].length ≤ 4294967296 then
          (F101 (y.2.1 ++ [IntKind.u32.wrap y.1.2.1], ())).bind fun y => some ((y.1.1, ()), ())
        else none
    else none
  else none : Option rs65.den) := by kernel_rfl
theorem F141_eq (l0 : List Int) (i1 : Int) : F141 (l0, i1, ()) = (
  if decide (i1 < (↑l0.length : Int)) = true then
    if 0 ≤ i1 then if i1 < (↑l0.length : Int) then some ((IntKind.u64.wrap (l0.getD i1.toNat 0), ()), ()) else none
    else none
  else some ((0, ()), ()) : Option rs141.den) := by kernel_rfl
theorem S114_4_eq (F141 : (SV.denL ps141) → Option (rs141).den) (a0 : List Int) (b1 : List Int) (carry6 : Int) (t13 : Int) (t14 : Int) (rw0 : List Int) : S114_4 F141 ((a0, b1, (), carry6, t13, t14, ()), (rw0, ())) = (
  if decide (t14 < t13) = true then
    (F141 (a0, t14, ())).bind fun y =>
      (F141 (b1, t14, ())).bind fun y_1 =>
        if
            rw0.length +
                [IntKind.u32.wrap
                      ((IntKind.u64.wrap (carry6 + IntKind.u64.wrap (y.1.1 + y_1.1.1))).tmod 1000000000)].length ≤
              4294967296 then
          some
            (Sum.inl
              ((a0, b1, (),
                  IntKind.u64.wrap ((IntKind.u64.wrap (carry6 + IntKind.u64.wrap (y.1.1 + y_1.1.1))).tdiv 1000000000),
                  t13, IntKind.i64.wrap (t14 + 1), ()),
                rw0 ++
                  [IntKind.u32.wrap ((IntKind.u64.wrap (carry6 + IntKind.u64.wrap (y.1.1 + y_1.1.1))).tmod 1000000000)],
                ()))
        else none
  else some (Sum.inr (((), ()), rw0, ())) : Option (sh114_4.den ⊕ denX w114_4)) := by kernel_rfl
theorem F114_eq (F101 : (SV.denL ps101) → Option (rs101).den) (g114_4 : sh114_4.den → Option (denX w114_4)) (a0 : List Int) (b1 : List Int) : F114 F101 g114_4 (a0, b1, ()) = (
  (g114_4 ((a0, b1, (), 0, IntKind.i64.wrap (imax (↑a0.length : Int) (↑b1.length : Int) + 1), 0, ()), [], ())).bind
    fun y => (F101 (y.2.1, ())).bind fun y => some ((y.1.1, ()), ()) : Option rs114.den) := by kernel_rfl
theorem S116_5_eq (F141 : (SV.denL ps141) → Option (rs141).den) (a0 : List Int) (b1 : List Int) (borrow6 : Int) (t16 : Int) (t17 : Int) (rw0 : List Int) : S116_5 F141 ((a0, b1, (), borrow6, t16, t17, ()), (rw0, ())) = (
  if decide (t17 < t16) = true then
    (F141 (a0, t17, ())).bind fun y =>
      (F141 (b1, t17, ())).bind fun y_1 =>
        if 0 ≤ t17 then
          if t17 < (↑rw0.length : Int) then
            some
              (Sum.inl
                ((a0, b1, (),
                    IntKind.u64.wrap
                      (1 -
                        IntKind.u64.wrap
                          ((IntKind.u64.wrap
                                (IntKind.u64.wrap (IntKind.u64.wrap (1000000000 + y.1.1) - y_1.1.1) - borrow6)).tdiv
                            1000000000)),
                    t16, IntKind.i64.wrap (t17 + 1), ()),
                  rw0.set t17.toNat
                    (IntKind.u32.wrap
                      ((IntKind.u64.wrap
                            (IntKind.u64.wrap (IntKind.u64.wrap (1000000000 + y.1.1) - y_1.1.1) - borrow6)).tmod
                        1000000000)),
                  ()))
          else none
        else none
  else some (Sum.inr (((), ()), rw0, ())) : Option (sh116_5.den ⊕ denX w116_5)) := by kernel_rfl
theorem F116_eq (F101 : (SV.denL ps101) → Option (rs101).den) (g116_5 : sh116_5.den → Option (denX w116_5)) (a0 : List Int) (b1 : List Int) : F116 F101 g116_5 (a0, b1, ()) = (
  if (↑a0.length : Int) ≤ (↑a0.length : Int) then
    if (↑a0.length : Int) ≤ ((4294967296 : Nat) : Int) then
      (g116_5
            ((a0, b1, (), 0,
                (↑(List.take (List.replicate (↑a0.length : Int).toNat (0 : Int)).length a0 ++
                        List.drop (0 + min a0.length (List.replicate (↑a0.length : Int).toNat (0 : Int)).length)
                          (List.replicate (↑a0.length : Int).toNat 0)).length :
                  Int),
                0, ()),
              List.take (List.replicate (↑a0.length : Int).toNat (0 : Int)).length a0 ++
                List.drop (0 + min a0.length (List.replicate (↑a0.length : Int).toNat (0 : Int)).length)
                  (List.replicate (↑a0.length : Int).toNat 0),
              ())).bind
        fun y => (F101 (y.2.1, ())).bind fun y => some ((y.1.1, ()), ())
    else none
  else none : Option rs116.den) := by kernel_rfl
theorem F74_eq (F94 : (SV.denL ps94) → Option (rs94).den) (F114 : (SV.denL ps114) → Option (rs114).den) (F115 : (SV.denL ps115) → Option (rs115).den) (F116 : (SV.denL ps116) → Option (rs116).den) (n0_0 : Bool) (n0_1 : List Int) (m1_0 : Bool) (m1_1 : List Int) : F74 F94 F114 F115 F116 ((n0_0, n0_1), (m1_0, m1_1), ()) = (
  if (n0_0 == m1_0) = true then
    (F114 (n0_1, m1_1, ())).bind fun y => (F115 ((n0_0, y.1.1), ())).bind fun y => some (((y.1.1.1, y.1.1.2), ()), ())
  else
    (F94 (n0_1, m1_1, ())).bind fun y =>
      if decide (y.1.1 < 0) = true then
        (F116 (m1_1, n0_1, ())).bind fun y => (F115 ((m1_0, y.1.1), ())).bind fun y => some (((y.1.1.1, y.1.1.2), ()), ())
      else
        (F116 (n0_1, m1_1, ())).bind fun y => (F115 ((n0_0, y.1.1), ())).bind fun y => some (((y.1.1.1, y.1.1.2), ()), ()) : Option rs74.den) := by kernel_rfl
theorem F76_eq (F115 : (SV.denL ps115) → Option (rs115).den) (n0_0 : Bool) (n0_1 : List Int) : F76 F115 ((n0_0, n0_1), ()) = (
  (F115 ((!n0_0, n0_1), ())).bind fun y => some (((y.1.1.1, y.1.1.2), ()), ()) : Option rs76.den) := by kernel_rfl
theorem F75_eq (F74 : (SV.denL ps74) → Option (rs74).den) (F76 : (SV.denL ps76) → Option (rs76).den) (x0_0 : Bool) (x0_1 : List Int) (y1_0 : Bool) (y1_1 : List Int) : F75 F74 F76 ((x0_0, x0_1), (y1_0, y1_1), ()) = (
  (F76 ((y1_0, y1_1), ())).bind fun y =>
    (F74 ((x0_0, x0_1), (y.1.1.1, y.1.1.2), ())).bind fun y => some (((y.1.1.1, y.1.1.2), ()), ()) : Option rs75.den) := by kernel_rfl
theorem S77_3_eq (F65 : (SV.denL ps65) → Option (rs65).den) (F114 : (SV.denL ps114) → Option (rs114).den) (e0 : Int) (e1 : Int) (b0_0 : Bool) (b0_1 : List Int) (b1_0 : Bool) (b1_1 : List Int) (b2_0 : Bool) (b2_1 : List Int) (b3_0 : List Int) : S77_3 F65 F114 (e0, e1) (((), (), (), (), ()), ((b0_0, b0_1, ()), (b1_0, b1_1, ()), (b2_0, b2_1, ()), (b3_0, ()), ())) = (
  if decide ((↑b3_0.length : Int) > 0) = true then
    if 1 + b3_0.length ≤ 4294967296 then
      (F65 (b0_1, e1, 0, ())).bind fun y =>
        (F114 ([0] ++ b3_0, y.1.1, ())).bind fun y =>
          some (Sum.inl (((), (), (), (), ()), (b0_0, b0_1, ()), (b1_0, b1_1, ()), (b2_0, b2_1, ()), (y.1.1, ()), ()))
    else none
  else
    (F65 (b0_1, e1, 0, ())).bind fun y =>
      (F114 (b3_0, y.1.1, ())).bind fun y =>
        some (Sum.inl (((), (), (), (), ()), (b0_0, b0_1, ()), (b1_0, b1_1, ()), (b2_0, b2_1, ()), (y.1.1, ()), ())) : Option (sh77_3.den ⊕ denX w77_3)) := by kernel_rfl
theorem F77_eq (F95 : (SV.denL ps95) → Option (rs95).den) (F115 : (SV.denL ps115) → Option (rs115).den) (D125 : Dt125) (g77_3 : List El125 → sh77_3.den → Option (sh77_3.den ⊕ denX w77_3)) (n0_0 : Bool) (n0_1 : List Int) (m1_0 : Bool) (m1_1 : List Int) : F77 F95 F115 D125 g77_3 ((n0_0, n0_1), (m1_0, m1_1), ()) = (
  (F95 (m1_1, ())).bind fun y =>
    (D125 (((), ()), (y.2.1.1, ()), ())).bind fun xs =>
      (g77_3 xs (((), (), (), (), ()), (n0_0, n0_1, ()), (m1_0, m1_1, ()), (false, [], ()), ([], ()), ())).bind fun y =>
        Sum.elim
          (fun x' =>
            (F115 ((!x'.2.1.1 == x'.2.2.1.1, x'.2.2.2.2.1.1), ())).bind fun y => some (((y.1.1.1, y.1.1.2), ()), ()))
          (fun z => none) y : Option rs77.den) := by kernel_rfl
theorem F73_eq (F41 : (SV.denL ps41) → Option (rs41).den) (F55 : (SV.denL ps55) → Option (rs55).den) (F66 : (SV.denL ps66) → Option (rs66).den) (F74 : (SV.denL ps74) → Option (rs74).den) (F75 : (SV.denL ps75) → Option (rs75).den) (F77 : (SV.denL ps77) → Option (rs77).den) (F81 : (SV.denL ps81) → Option (rs81).den) (a0 : List UInt8) (b1 : List UInt8) (f2 : Int) : F73 F41 F55 F66 F74 F75 F77 F81 (a0, b1, f2, ()) = (
  (F41 (a0, ())).bind fun y =>
    (F41 (b1, ())).bind fun y_1 =>
      (F55 ([y.1.1, y_1.1.1], ())).bind fun y =>
        if (!y.1.1 == 0) = true then some (([], y.1.1, ()), ())
        else
          (F81 (a0, ())).bind fun y =>
            (F81 (b1, ())).bind fun y_2 =>
              if f2 = (↑30 : Int) then none
              else
                if f2 = (↑31 : Int) then none
                else
                  if f2 = (↑32 : Int) then none
                  else
                    if f2 = (↑33 : Int) then none
                    else
                      if f2 = (↑34 : Int) then none
                      else
                        if f2 = (↑35 : Int) then none
                        else
                          if f2 = (↑36 : Int) then none
                          else
                            if f2 = (↑37 : Int) then none
                            else
                              if f2 = (↑75 : Int) then
                                (F74 ((y.1.1.1, y.1.1.2), (y_2.1.1.1, y_2.1.1.2), ())).bind fun y =>
                                  (F66 ((y.1.1.1, y.1.1.2), ())).bind fun y => some ((y.1.1, y.1.2.1, ()), ())
                              else
                                if f2 = (↑76 : Int) then
                                  (F75 ((y.1.1.1, y.1.1.2), (y_2.1.1.1, y_2.1.1.2), ())).bind fun y =>
                                    (F66 ((y.1.1.1, y.1.1.2), ())).bind fun y => some ((y.1.1, y.1.2.1, ()), ())
                                else
                                  if f2 = (↑78 : Int) then
                                    (F77 ((y.1.1.1, y.1.1.2), (y_2.1.1.1, y_2.1.1.2), ())).bind fun y =>
                                      (F66 ((y.1.1.1, y.1.1.2), ())).bind fun y => some ((y.1.1, y.1.2.1, ()), ())
                                  else
                                    if f2 = (↑80 : Int) then none
                                    else
                                      if f2 = (↑81 : Int) then none
                                      else
                                        if f2 = (↑104 : Int) then none
                                        else if f2 = (↑200 : Int) then none else if f2 = (↑201 : Int) then none else none : Option rs73.den) := by kernel_rfl
theorem F31_eq (F73 : (SV.denL ps73) → Option (rs73).den) (a0 : List UInt8) (b1 : List UInt8) : F31 F73 (a0, b1, ()) = (
  (F73 (a0, b1, (↑78 : Int), ())).bind fun y => some ((y.1.1, y.1.2.1, ()), ()) : Option rs31.den) := by kernel_rfl
theorem S117_8_eq (F65 : (SV.denL ps65) → Option (rs65).den) (F94 : (SV.denL ps94) → Option (rs94).den) (i8 : Int) (low10 : Int) (high11 : Int) (b0_0 : List Int) (b2_0 : List Int) (rw3 : List Int) : S117_8 F65 F94 (((), (), (), i8, low10, high11, ()), ((b0_0, ()), ((), ()), (b2_0, ()), rw3, ())) = (
  if decide (low10 < high11) = true then
    (F65
          (b0_0,
            IntKind.u32.wrap
              (low10 + IntKind.u32.wrap ((IntKind.u32.wrap (IntKind.u32.wrap (high11 - low10) + 1)).tdiv 2)),
            0, ())).bind
      fun y =>
      (F94 (y.1.1, b2_0, ())).bind fun y =>
        if decide (y.1.1 ≤ 0) = true then
          some
            (Sum.inl
              (((), (), (), i8,
                  IntKind.u32.wrap
                    (low10 + IntKind.u32.wrap ((IntKind.u32.wrap (IntKind.u32.wrap (high11 - low10) + 1)).tdiv 2)),
                  high11, ()),
                (b0_0, ()), ((), ()), (b2_0, ()), rw3, ()))
        else
          some
            (Sum.inl
              (((), (), (), i8, low10,
                  IntKind.u32.wrap
                    (IntKind.u32.wrap
                        (low10 + IntKind.u32.wrap ((IntKind.u32.wrap (IntKind.u32.wrap (high11 - low10) + 1)).tdiv 2)) -
                      1),
                  ()),
                (b0_0, ()), ((), ()), (b2_0, ()), rw3, ()))
  else some (Sum.inr (((), (), (), i8, low10, ()), (b0_0, ()), ((), ()), (b2_0, ()), rw3, ())) : Option (sh117_8.den ⊕ denX w117_8)) := by kernel_rfl
theorem S117_4_eq (F65 : (SV.denL ps65) → Option (rs65).den) (F101 : (SV.denL ps101) → Option (rs101).den) (F116 : (SV.denL ps116) → Option (rs116).den) (g117_8 : sh117_8.den → Option (denX w117_8)) (e0 : Int) (e1 : Int) (b0_0 : List Int) (b2_0 : List Int) (rw3 : List Int) : S117_4 F65 F101 F116 g117_8 (e0, e1) (((), (), (), ()), ((b0_0, ()), ((), ()), (b2_0, ()), rw3, ())) = (
  if [e1].length + b2_0.length ≤ 4294967296 then
    (F101 ([e1] ++ b2_0, ())).bind fun y =>
      (g117_8 (((), (), (), e0, 0, 999999999, ()), (b0_0, ()), ((), ()), (y.1.1, ()), rw3, ())).bind fun y =>
        (F65 (y.2.1.1, y.1.2.2.2.2.1, 0, ())).bind fun y_1 =>
          (F116 (y.2.2.2.1.1, y_1.1.1, ())).bind fun y_2 =>
            if 0 ≤ y.1.2.2.2.1 then
              if y.1.2.2.2.1 < (↑(List.length y.2.2.2.2.1) : Int) then
                some
                  (Sum.inl
                    (((), (), (), ()), (y.2.1.1, ()), ((), ()), (y_2.1.1, ()),
                      List.set y.2.2.2.2.1 (Int.toNat y.1.2.2.2.1) y.1.2.2.2.2.1, ()))
              else none
            else none
  else none : Option (sh117_4.den ⊕ denX w117_4)) := by kernel_rfl
theorem F117_eq (F95 : (SV.denL ps95) → Option (rs95).den) (F101 : (SV.denL ps101) → Option (rs101).den) (D125 : Dt125) (g117_4 : List El125 → sh117_4.den → Option (sh117_4.den ⊕ denX w117_4)) (a0 : List Int) (b1 : List Int) : F117 F95 F101 D125 g117_4 (a0, b1, ()) = (
  if (↑a0.length : Int) ≤ (↑a0.length : Int) then
    if (↑a0.length : Int) ≤ ((4294967296 : Nat) : Int) then
      (F95 (a0, ())).bind fun y =>
        (D125 (((), ()), (y.2.1.1, ()), ())).bind fun xs =>
          (g117_4 xs (((), (), (), ()), (b1, ()), ((), ()), ([], ()), List.replicate (↑a0.length : Int).toNat 0, ())).bind
            fun y =>
            Sum.elim (fun x' => (F101 (x'.2.2.2.2.1, ())).bind fun y => some ((y.1.1, x'.2.2.2.1.1, ()), ()))
              (fun z => none) y
    else none
  else none : Option rs117.den) := by kernel_rfl
theorem F79_eq (F115 : (SV.denL ps115) → Option (rs115).den) (F117 : (SV.denL ps117) → Option (rs117).den) (n0_0 : Bool) (n0_1 : List Int) (m1_0 : Bool) (m1_1 : List Int) : F79 F115 F117 ((n0_0, n0_1), (m1_0, m1_1), ()) = (
  (F117 (n0_1, m1_1, ())).bind fun y =>
    (F115 ((!n0_0 == m1_0, y.1.1), ())).bind fun y_1 =>
      (F115 ((n0_0, y.1.2.1), ())).bind fun y => some ((((y_1.1.1.1, y_1.1.1.2), y.1.1.1, y.1.1.2), ()), ()) : Option rs79.den) := by kernel_rfl
theorem F80_eq (F74 : (SV.denL ps74) → Option (rs74).den) (F79 : (SV.denL ps79) → Option (rs79).den) (F81 : (SV.denL ps81) → Option (rs81).den) (x0_0 : Bool) (x0_1 : List Int) (y1_0 : Bool) (y1_1 : List Int) : F80 F74 F79 F81 ((x0_0, x0_1), (y1_0, y1_1), ()) = (
  (F79 ((x0_0, x0_1), (y1_0, y1_1), ())).bind fun y =>
    if decide ((↑(List.length y.1.1.2.2) : Int) > 0) = true then
      if (!y.1.1.2.1 == y1_0) = true then
        (F81 ([(45 : UInt8), (49 : UInt8)], ())).bind fun y_1 =>
          (F74 ((y.1.1.1.1, y.1.1.1.2), (y_1.1.1.1, y_1.1.1.2), ())).bind fun y_2 =>
            (F74 ((y.1.1.2.1, y.1.1.2.2), (y1_0, y1_1), ())).bind fun y =>
              some ((((y_2.1.1.1, y_2.1.1.2), y.1.1.1, y.1.1.2), ()), ())
      else some ((((y.1.1.1.1, y.1.1.1.2), y.1.1.2.1, y.1.1.2.2), ()), ())
    else some ((((y.1.1.1.1, y.1.1.1.2), y.1.1.2.1, y.1.1.2.2), ()), ()) : Option rs80.den) := by kernel_rfl
theorem F78_eq (F41 : (SV.denL ps41) → Option (rs41).den) (F55 : (SV.denL ps55) → Option (rs55).den) (F56 : (SV.denL ps56) → Option (rs56).den) (F66 : (SV.denL ps66) → Option (rs66).den) (F79 : (SV.denL ps79) → Option (rs79).den) (F80 : (SV.denL ps80) → Option (rs80).den) (F81 : (SV.denL ps81) → Option (rs81).den) (a0 : List UInt8) (b1 : List UInt8) (f2 : Int) : F78 F41 F55 F56 F66 F79 F80 F81 (a0, b1, f2, ()) = (
  (F41 (a0, ())).bind fun y =>
    (F41 (b1, ())).bind fun y_1 =>
      (F56 (b1 == [(48 : UInt8)], 34, ())).bind fun y_2 =>
        (F55 ([y.1.1, y_1.1.1, y_2.1.1], ())).bind fun y =>
          if (!y.1.1 == 0) = true then some (([], [], y.1.1, ()), ())
          else
            (F81 (a0, ())).bind fun y =>
              (F81 (b1, ())).bind fun y_3 =>
                if f2 = (↑30 : Int) then none
                else
                  if f2 = (↑31 : Int) then none
                  else
                    if f2 = (↑32 : Int) then none
                    else
                      if f2 = (↑33 : Int) then none
                      else
                        if f2 = (↑34 : Int) then none
                        else
                          if f2 = (↑35 : Int) then none
                          else
                            if f2 = (↑36 : Int) then none
                            else
                              if f2 = (↑37 : Int) then none
                              else
                                if f2 = (↑75 : Int) then none
                                else
                                  if f2 = (↑76 : Int) then none
                                  else
                                    if f2 = (↑78 : Int) then none
                                    else
                                      if f2 = (↑80 : Int) then
                                        (F79 ((y.1.1.1, y.1.1.2), (y_3.1.1.1, y_3.1.1.2), ())).bind fun y =>
                                          (F66 ((y.1.1.1.1, y.1.1.1.2), ())).bind fun y_4 =>
                                            if (!y_4.1.2.1 == 0) = true then some (([], [], y_4.1.2.1, ()), ())
                                            else
                                              (F66 ((y.1.1.2.1, y.1.1.2.2), ())).bind fun y =>
                                                some ((y_4.1.1, y.1.1, 0, ()), ())
                                      else
                                        if f2 = (↑81 : Int) then
                                          (F80 ((y.1.1.1, y.1.1.2), (y_3.1.1.1, y_3.1.1.2), ())).bind fun y =>
                                            (F66 ((y.1.1.1.1, y.1.1.1.2), ())).bind fun y_4 =>
                                              if (!y_4.1.2.1 == 0) = true then some (([], [], y_4.1.2.1, ()), ())
                                              else
                                                (F66 ((y.1.1.2.1, y.1.1.2.2), ())).bind fun y =>
                                                  some ((y_4.1.1, y.1.1, 0, ()), ())
                                        else
                                          if f2 = (↑104 : Int) then none
                                          else
                                            if f2 = (↑200 : Int) then none else if f2 = (↑201 : Int) then none else none : Option rs78.den) := by kernel_rfl
theorem F33_eq (F78 : (SV.denL ps78) → Option (rs78).den) (a0 : List UInt8) (b1 : List UInt8) : F33 F78 (a0, b1, ()) = (
  (F78 (a0, b1, (↑81 : Int), ())).bind fun y => some ((y.1.1, y.1.2.1, y.1.2.2.1, ()), ()) : Option rs33.den) := by kernel_rfl
theorem F59_eq (is0 : Bool) (e1 : Int) : F59 (is0, e1, ()) = (
  if is0 = true then some ((e1, ()), ()) else some ((0, ()), ()) : Option rs59.den) := by kernel_rfl
theorem F72_eq (c0 : Int) : F72 (c0, ()) = (
  if decide (c0 ≥ 48) = true then some ((decide (c0 ≤ 57), ()), ()) else some ((false, ()), ()) : Option rs72.den) := by kernel_rfl
theorem S27_7_eq (F72 : (SV.denL ps72) → Option (rs72).den) (body3 : List UInt8) (i4 : Int) : S27_7 F72 ((body3, i4, ()), ()) = (
  if decide (i4 < (↑body3.length : Int)) = true then
    if 0 ≤ i4 then
      if i4 < (↑body3.length : Int) then
        (F72 ((↑(body3.getD i4.toNat (0 : UInt8)).toNat : Int), ())).bind fun y =>
          if (!y.1.1) = true then some (Sum.inr (Sum.inl ((1, ()), ())))
          else some (Sum.inl ((body3, IntKind.i64.wrap (i4 + 1), ()), ()))
      else none
    else none
  else some (Sum.inr (Sum.inr ((body3, ()), ()))) : Option (sh27_7.den ⊕ denX w27_7)) := by kernel_rfl
theorem F27_eq (F59 : (SV.denL ps59) → Option (rs59).den) (g27_7 : sh27_7.den → Option (denX w27_7)) (s0 : List UInt8) : F27 F59 g27_7 (s0, ()) = (
  if decide ((↑s0.length : Int) > 0) = true then
    if 0 < (↑s0.length : Int) then
      if ((↑(s0.getD 0 (0 : UInt8)).toNat : Int) == 45) = true then
        if 1 ≤ (↑s0.length : Int) then
          if (↑s0.length : Int) ≤ (↑s0.length : Int) then
            if (List.drop 1 s0 == []) = true then some ((1, ()), ())
            else
              if (s0 == [(45 : UInt8), (48 : UInt8)]) = true then
                some ((1, ()), ())
              else
                if decide ((↑(List.drop 1 s0).length : Int) > 1) = true then
                  if 0 < (↑(List.drop 1 s0).length : Int) then
                    if ((↑((List.drop 1 s0).getD 0 (0 : UInt8)).toNat : Int) == 48) = true then
                      some ((1, ()), ())
                    else
                      (g27_7 ((List.drop 1 s0, 0, ()), ())).bind fun y =>
                        Sum.elim (fun y => some ((y.1.1, ()), ()))
                          (fun z =>
                            (F59 (decide ((↑(List.length z.1.1) : Int) > 100), 4, ())).bind fun y =>
                              some ((y.1.1, ()), ()))
                          y
                  else none
                else
                  (g27_7 ((List.drop 1 s0, 0, ()), ())).bind fun y =>
                    Sum.elim (fun y => some ((y.1.1, ()), ()))
                      (fun z =>
                        (F59 (decide ((↑(List.length z.1.1) : Int) > 100), 4, ())).bind fun y => some ((y.1.1, ()), ()))
                      y
          else none
        else none
      else
        if (s0 == []) = true then some ((1, ()), ())
        else
          if (s0 == [(45 : UInt8), (48 : UInt8)]) = true then
            some ((1, ()), ())
          else
            if decide ((↑s0.length : Int) > 1) = true then
              if 0 < (↑s0.length : Int) then
                if ((↑(s0.getD 0 (0 : UInt8)).toNat : Int) == 48) = true then some ((1, ()), ())
                else
                  (g27_7 ((s0, 0, ()), ())).bind fun y =>
                    Sum.elim (fun y => some ((y.1.1, ()), ()))
                      (fun z =>
                        (F59 (decide ((↑(List.length z.1.1) : Int) > 100), 4, ())).bind fun y => some ((y.1.1, ()), ()))
                      y
              else none
            else
              (g27_7 ((s0, 0, ()), ())).bind fun y =>
                Sum.elim (fun y => some ((y.1.1, ()), ()))
                  (fun z =>
                    (F59 (decide ((↑(List.length z.1.1) : Int) > 100), 4, ())).bind fun y => some ((y.1.1, ()), ()))
                  y
    else none
  else
    if (s0 == []) = true then some ((1, ()), ())
    else
      if (s0 == [(45 : UInt8), (48 : UInt8)]) = true then
        some ((1, ()), ())
      else
        if decide ((↑s0.length : Int) > 1) = true then
          if 0 < (↑s0.length : Int) then
            if ((↑(s0.getD 0 (0 : UInt8)).toNat : Int) == 48) = true then some ((1, ()), ())
            else
              (g27_7 ((s0, 0, ()), ())).bind fun y =>
                Sum.elim (fun y => some ((y.1.1, ()), ()))
                  (fun z =>
                    (F59 (decide ((↑(List.length z.1.1) : Int) > 100), 4, ())).bind fun y => some ((y.1.1, ()), ()))
                  y
          else none
        else
          (g27_7 ((s0, 0, ()), ())).bind fun y =>
            Sum.elim (fun y => some ((y.1.1, ()), ()))
              (fun z => (F59 (decide ((↑(List.length z.1.1) : Int) > 100), 4, ())).bind fun y => some ((y.1.1, ()), ())) y : Option rs27.den) := by kernel_rfl
theorem F28_eq (x0 : Int) (y1 : Int) : F28 (x0, y1, ()) = (
  some
    ((IntKind.u64.wrap
          (IntKind.u64.wrap
              (IntKind.u64.wrap (x0.fdiv (2 ^ 32) * y1.fdiv (2 ^ 32)) +
                (IntKind.u64.wrap
                      (IntKind.u64.wrap (x0.fdiv (2 ^ 32) * bitop BinOp.and IntKind.u64 y1 4294967295) +
                        (IntKind.u64.wrap
                              (bitop BinOp.and IntKind.u64 x0 4294967295 *
                                bitop BinOp.and IntKind.u64 y1 4294967295)).fdiv
                          (2 ^ 32))).fdiv
                  (2 ^ 32)) +
            (IntKind.u64.wrap
                  (bitop BinOp.and IntKind.u64
                      (IntKind.u64.wrap
                        (IntKind.u64.wrap (x0.fdiv (2 ^ 32) * bitop BinOp.and IntKind.u64 y1 4294967295) +
                          (IntKind.u64.wrap
                                (bitop BinOp.and IntKind.u64 x0 4294967295 *
                                  bitop BinOp.and IntKind.u64 y1 4294967295)).fdiv
                            (2 ^ 32)))
                      4294967295 +
                    IntKind.u64.wrap (bitop BinOp.and IntKind.u64 x0 4294967295 * y1.fdiv (2 ^ 32)))).fdiv
              (2 ^ 32)),
        IntKind.u64.wrap (x0 * y1), ()),
      ()) : Option rs28.den) := by kernel_rfl
theorem F29_eq (F73 : (SV.denL ps73) → Option (rs73).den) (a0 : List UInt8) (b1 : List UInt8) : F29 F73 (a0, b1, ()) = (
  (F73 (a0, b1, (↑75 : Int), ())).bind fun y => some ((y.1.1, y.1.2.1, ()), ()) : Option rs29.den) := by kernel_rfl
theorem F30_eq (F73 : (SV.denL ps73) → Option (rs73).den) (a0 : List UInt8) (b1 : List UInt8) : F30 F73 (a0, b1, ()) = (
  (F73 (a0, b1, (↑76 : Int), ())).bind fun y => some ((y.1.1, y.1.2.1, ()), ()) : Option rs30.den) := by kernel_rfl
theorem F32_eq (F78 : (SV.denL ps78) → Option (rs78).den) (a0 : List UInt8) (b1 : List UInt8) : F32 F78 (a0, b1, ()) = (
  (F78 (a0, b1, (↑80 : Int), ())).bind fun y => some ((y.1.1, y.1.2.1, y.1.2.2.1, ()), ()) : Option rs32.den) := by kernel_rfl
theorem F7_eq (F9 : (SV.denL ps9) → Option (rs9).den) (F10 : (SV.denL ps10) → Option (rs10).den) (F11 : (SV.denL ps11) → Option (rs11).den) (F15 : (SV.denL ps15) → Option (rs15).den) (F21 : (SV.denL ps21) → Option (rs21).den) (F27 : (SV.denL ps27) → Option (rs27).den) (F28 : (SV.denL ps28) → Option (rs28).den) (F29 : (SV.denL ps29) → Option (rs29).den) (F31 : (SV.denL ps31) → Option (rs31).den) (g7_13 : sh7_13.den → Option (denX w7_13)) (g7_29 : sh7_29.den → Option (denX w7_29)) (typ0 : List UInt8) (a1 : List UInt8) (b2 : List UInt8) : F7 F9 F10 F11 F15 F21 F27 F28 F29 F31 g7_13 g7_29 (typ0, a1, b2, ()) = (
  (F9 ([typ0], ())).bind fun y =>
    if (!y.1.1) = true then (F10 ()).bind fun y => some ((y.1.1, ()), ())
    else
      if decide ((↑a1.length : Int) > 40) = true then (F10 ()).bind fun y => some ((y.1.1, ()), ())
      else
        if decide ((↑b2.length : Int) > 40) = true then (F10 ()).bind fun y => some ((y.1.1, ()), ())
        else
          (F15 (typ0, ())).bind fun y =>
            if (!y.1.1 == 0) = true then (F10 ()).bind fun y => some ((y.1.1, ()), ())
            else
              (F27 (a1, ())).bind fun y =>
                if (!y.1.1 == 0) = true then (F10 ()).bind fun y => some ((y.1.1, ()), ())
                else
                  (F27 (b2, ())).bind fun y =>
                    if (!y.1.1 == 0) = true then (F10 ()).bind fun y => some ((y.1.1, ()), ())
                    else
                      (F11 (typ0, ())).bind fun y =>
                        if decide (y.1.1 < 64) = true then
                          if y.1.1 < 0 then none
                          else
                            (F21 (typ0, a1, ())).bind fun y_1 =>
                              (F21 (typ0, b2, ())).bind fun y_2 =>
                                if (!y_1.1.2.1 == 0) = true then some ((false, ()), ())
                                else
                                  if (!y_2.1.2.1 == 0) = true then some ((false, ()), ())
                                  else
                                    (F28 (y_1.1.1, y_2.1.1, ())).bind fun y_3 =>
                                      (g7_13
                                            ((typ0, a1, b2,
                                                IntKind.u64.wrap
                                                  (IntKind.u64.wrap (1 * 2 ^ min (Int.toNat y.1.1) 64) - 1),
                                                (),
                                                (↑[IntKind.u64.wrap (y_1.1.1 + y_2.1.1),
                                                        IntKind.u64.wrap (y_1.1.1 - y_2.1.1), y_3.1.2.1].length :
                                                  Int),
                                                0, ()),
                                              [IntKind.u64.wrap (y_1.1.1 + y_2.1.1), IntKind.u64.wrap (y_1.1.1 - y_2.1.1),
                                                y_3.1.2.1],
                                              ())).bind
                                        fun y =>
                                        Sum.elim (fun y => some ((y.1.1, ()), ()))
                                          (fun z =>
                                            (F29 (z.1.1, z.1.2.1, ())).bind fun y =>
                                              (F29 (z.1.2.1, z.1.1, ())).bind fun y_4 =>
                                                (F31 (z.1.1, z.1.2.1, ())).bind fun y_5 =>
                                                  (F31 (z.1.2.1, z.1.1, ())).bind fun y_6 =>
                                                    if (!y.1.1 == y_4.1.1) = true then some ((false, ()), ())
                                                    else
                                                      if (!y_5.1.1 == y_6.1.1) = true then some ((false, ()), ())
                                                      else
                                                        if (z.1.2.1 == [(48 : UInt8)]) = true then
                                                          (F10 ()).bind fun y => some ((y.1.1, ()), ())
                                                        else
                                                          (g7_29
                                                                ((z.1.1, z.1.2.1, (), (↑2 : Int), 0, ()),
                                                                  [(↑33 : Int), (↑34 : Int)], ())).bind
                                                            fun y =>
                                                            Sum.elim (fun y => some ((y.1.1, ()), ()))
                                                              (fun z => (F10 ()).bind fun y => some ((y.1.1, ()), ())) y)
                                          y
                        else
                          (F21 (typ0, a1, ())).bind fun y =>
                            (F21 (typ0, b2, ())).bind fun y_1 =>
                              if (!y.1.2.1 == 0) = true then some ((false, ()), ())
                              else
                                if (!y_1.1.2.1 == 0) = true then some ((false, ()), ())
                                else
                                  (F28 (y.1.1, y_1.1.1, ())).bind fun y_2 =>
                                    (g7_13
                                          ((typ0, a1, b2, 18446744073709551615, (),
                                              (↑[IntKind.u64.wrap (y.1.1 + y_1.1.1), IntKind.u64.wrap (y.1.1 - y_1.1.1),
                                                      y_2.1.2.1].length :
                                                Int),
                                              0, ()),
                                            [IntKind.u64.wrap (y.1.1 + y_1.1.1), IntKind.u64.wrap (y.1.1 - y_1.1.1),
                                              y_2.1.2.1],
                                            ())).bind
                                      fun y =>
                                      Sum.elim (fun y => some ((y.1.1, ()), ()))
                                        (fun z =>
                                          (F29 (z.1.1, z.1.2.1, ())).bind fun y =>
                                            (F29 (z.1.2.1, z.1.1, ())).bind fun y_3 =>
                                              (F31 (z.1.1, z.1.2.1, ())).bind fun y_4 =>
                                                (F31 (z.1.2.1, z.1.1, ())).bind fun y_5 =>
                                                  if (!y.1.1 == y_3.1.1) = true then some ((false, ()), ())
                                                  else
                                                    if (!y_4.1.1 == y_5.1.1) = true then some ((false, ()), ())
                                                    else
                                                      if (z.1.2.1 == [(48 : UInt8)]) = true then
                                                        (F10 ()).bind fun y => some ((y.1.1, ()), ())
                                                      else
                                                        (g7_29
                                                              ((z.1.1, z.1.2.1, (), (↑2 : Int), 0, ()),
                                                                [(↑33 : Int), (↑34 : Int)], ())).bind
                                                          fun y =>
                                                          Sum.elim (fun y => some ((y.1.1, ()), ()))
                                                            (fun z => (F10 ()).bind fun y => some ((y.1.1, ()), ())) y)
                                        y : Option rs7.den) := by kernel_rfl
end Go.Proofs.Rf
/- The functions, evaluated. -/
namespace Go.Proofs.Rf
open Go Go.RowKit
end Go.Proofs.Rf
/- The functions, filled in. -/
set_option linter.unusedVariables false
namespace Go.Proofs.Rf
open Go Go.RowKit
noncomputable def Lg89_2 : sh89_2.den → Option (denX w89_2) := limL (S89_2)
noncomputable def L89 : (SV.denL ps89) → Option (rs89).den := F89 Lg89_2
theorem okL89 : CallOK Tryz.prog 89 (mkCall ps89 rs89 L89) := call89 (lim_limL _)
noncomputable def Lg121_10 : sh121_10.den → Option (denX w121_10) := limL (S121_10)
noncomputable def L121 : (SV.denL ps121) → Option (rs121).den := F121 Lg121_10
theorem okL121 : CallOK Tryz.prog 121 (mkCall ps121 rs121 L121) := call121 (lim_limL _)
noncomputable def L90 : (SV.denL ps90) → Option (rs90).den := F90 L121
theorem okL90 : CallOK Tryz.prog 90 (mkCall ps90 rs90 L90) := call90 okL121
noncomputable def L42 : (SV.denL ps42) → Option (rs42).den := F42 L89 L90
theorem okL42 : CallOK Tryz.prog 42 (mkCall ps42 rs42 L42) := call42 okL89 okL90
noncomputable def L11 : (SV.denL ps11) → Option (rs11).den := F11 L42
theorem okL11 : CallOK Tryz.prog 11 (mkCall ps11 rs11 L11) := call11 okL42
noncomputable def L59 : (SV.denL ps59) → Option (rs59).den := F59
theorem okL59 : CallOK Tryz.prog 59 (mkCall ps59 rs59 L59) := call59
noncomputable def L72 : (SV.denL ps72) → Option (rs72).den := F72
theorem okL72 : CallOK Tryz.prog 72 (mkCall ps72 rs72 L72) := call72
noncomputable def L57 : (SV.denL ps57) → Option (rs57).den := F57
theorem okL57 : CallOK Tryz.prog 57 (mkCall ps57 rs57 L57) := call57
noncomputable def Lg96_2 : sh96_2.den → Option (denX w96_2) := limL (S96_2)
noncomputable def L96 : (SV.denL ps96) → Option (rs96).den := F96 Lg96_2
theorem okL96 : CallOK Tryz.prog 96 (mkCall ps96 rs96 L96) := call96 (lim_limL _)
noncomputable def Lg52_6 : sh52_6.den → Option (denX w52_6) := limL (S52_6)
noncomputable def L52 : (SV.denL ps52) → Option (rs52).den := F52 L96 Lg52_6
theorem okL52 : CallOK Tryz.prog 52 (mkCall ps52 rs52 L52) := call52 okL96 (lim_limL _)
noncomputable def L112 : (SV.denL ps112) → Option (rs112).den := F112
theorem okL112 : CallOK Tryz.prog 112 (mkCall ps112 rs112 L112) := call112
noncomputable def Lg109_4 : sh109_4.den → Option (denX w109_4) := limL (S109_4 L112)
noncomputable def L109 : (SV.denL ps109) → Option (rs109).den := F109 Lg109_4
theorem okL109 : CallOK Tryz.prog 109 (mkCall ps109 rs109 L109) := call109 okL112 (lim_limL _)
noncomputable def Lg110_2 : sh110_2.den → Option (denX w110_2) := limL (S110_2 L112)
noncomputable def L110 : (SV.denL ps110) → Option (rs110).den := F110 Lg110_2
theorem okL110 : CallOK Tryz.prog 110 (mkCall ps110 rs110 L110) := call110 okL112 (lim_limL _)
noncomputable def Lg111_4 : sh111_4.den → Option (denX w111_4) := limL (S111_4 L112)
noncomputable def L111 : (SV.denL ps111) → Option (rs111).den := F111 Lg111_4
theorem okL111 : CallOK Tryz.prog 111 (mkCall ps111 rs111 L111) := call111 okL112 (lim_limL _)
noncomputable def L68 : (SV.denL ps68) → Option (rs68).den := F68 L96 L109 L110 L111
theorem okL68 : CallOK Tryz.prog 68 (mkCall ps68 rs68 L68) := call68 okL109 okL110 okL111 okL96
noncomputable def L93 : (SV.denL ps93) → Option (rs93).den := F93 L96
theorem okL93 : CallOK Tryz.prog 93 (mkCall ps93 rs93 L93) := call93 okL96
noncomputable def L82 : (SV.denL ps82) → Option (rs82).den := F82 L68 L93
theorem okL82 : CallOK Tryz.prog 82 (mkCall ps82 rs82 L82) := call82 okL68 okL93
noncomputable def Lg69_7 : sh69_7.den → Option (denX w69_7) := limL (S69_7 L112)
noncomputable def Lg69_3 : sh69_3.den → Option (denX w69_3) := limL (S69_3 Lg69_7)
noncomputable def L69 : (SV.denL ps69) → Option (rs69).den := F69 L96 Lg69_3
theorem okL69 : CallOK Tryz.prog 69 (mkCall ps69 rs69 L69) := call69 okL112 okL96 (lim_limL _) (lim_limL _)
noncomputable def Lg46_7 : sh46_7.den → Option (denX w46_7) := limL (S46_7)
noncomputable def L46 : (SV.denL ps46) → Option (rs46).den := F46 Lg46_7
theorem okL46 : CallOK Tryz.prog 46 (mkCall ps46 rs46 L46) := call46 (lim_limL _)
noncomputable def L15 : (SV.denL ps15) → Option (rs15).den := F15 L42
theorem okL15 : CallOK Tryz.prog 15 (mkCall ps15 rs15 L15) := call15 okL42
noncomputable def Lg55_2 : sh55_2.den → Option (denX w55_2) := limL (S55_2)
noncomputable def L55 : (SV.denL ps55) → Option (rs55).den := F55 Lg55_2
theorem okL55 : CallOK Tryz.prog 55 (mkCall ps55 rs55 L55) := call55 (lim_limL _)
noncomputable def L56 : (SV.denL ps56) → Option (rs56).den := F56
theorem okL56 : CallOK Tryz.prog 56 (mkCall ps56 rs56 L56) := call56
noncomputable def L100 : (SV.denL ps100) → Option (rs100).den := F100
theorem okL100 : CallOK Tryz.prog 100 (mkCall ps100 rs100 L100) := call100
noncomputable def L120 : (SV.denL ps120) → Option (rs120).den := F120 L100
theorem okL120 : CallOK Tryz.prog 120 (mkCall ps120 rs120 L120) := call120 okL100
noncomputable def L88 : (SV.denL ps88) → Option (rs88).den := F88 L120
theorem okL88 : CallOK Tryz.prog 88 (mkCall ps88 rs88 L88) := call88 okL120
noncomputable def L41 : (SV.denL ps41) → Option (rs41).den := F41 L55 L56 L88 L89
theorem okL41 : CallOK Tryz.prog 41 (mkCall ps41 rs41 L41) := call41 okL55 okL56 okL88 okL89
noncomputable def Lg101_1 : sh101_1.den → Option (denX w101_1) := limL (S101_1)
noncomputable def L101 : (SV.denL ps101) → Option (rs101).den := F101 Lg101_1
theorem okL101 : CallOK Tryz.prog 101 (mkCall ps101 rs101 L101) := call101 (lim_limL _)
noncomputable def L115 : (SV.denL ps115) → Option (rs115).den := F115 L101
theorem okL115 : CallOK Tryz.prog 115 (mkCall ps115 rs115 L115) := call115 okL101
noncomputable def L118 : (SV.denL ps118) → Option (rs118).den := F118
theorem okL118 : CallOK Tryz.prog 118 (mkCall ps118 rs118 L118) := call118
noncomputable def LD142 : Dt142 := colLim (B142) (Y142)
theorem okLI142 : IterOK Tryz.prog 142 encs142 (cap142 LD142) := it142 (coll_colLim _ _)
noncomputable def Lg81_4 : List El142 → sh81_4.den → Option (sh81_4.den ⊕ denX w81_4) := foldR (S81_4 L90)
noncomputable def L81 : (SV.denL ps81) → Option (rs81).den := F81 L88 L115 L118 LD142 Lg81_4
theorem okL81 : CallOK Tryz.prog 81 (mkCall ps81 rs81 L81) := call81 okLI142 okL115 okL118 okL88 okL90 rfl
noncomputable def L47 : (SV.denL ps47) → Option (rs47).den := F47 L41 L42 L55 L81
theorem okL47 : CallOK Tryz.prog 47 (mkCall ps47 rs47 L47) := call47 okL41 okL42 okL55 okL81
noncomputable def L148 : (SV.denL ps148) → Option (rs148).den := F148
theorem okL148 : CallOK Tryz.prog 148 (mkCall ps148 rs148 L148) := call148
noncomputable def L123 : (SV.denL ps123) → Option (rs123).den := F123 L148
theorem okL123 : CallOK Tryz.prog 123 (mkCall ps123 rs123 L123) := call123 okL148
noncomputable def L149 : (SV.denL ps149) → Option (rs149).den := F149
theorem okL149 : CallOK Tryz.prog 149 (mkCall ps149 rs149 L149) := call149
noncomputable def L124 : (SV.denL ps124) → Option (rs124).den := F124 L149
theorem okL124 : CallOK Tryz.prog 124 (mkCall ps124 rs124 L124) := call124 okL149
noncomputable def Lg94_5 : sh94_5.den → Option (denX w94_5) := limL (S94_5 L124)
noncomputable def L94 : (SV.denL ps94) → Option (rs94).den := F94 L123 Lg94_5
theorem okL94 : CallOK Tryz.prog 94 (mkCall ps94 rs94 L94) := call94 okL123 okL124 (lim_limL _)
noncomputable def L95 : (SV.denL ps95) → Option (rs95).den := F95
theorem okL95 : CallOK Tryz.prog 95 (mkCall ps95 rs95 L95) := call95
noncomputable def LD125 : Dt125 := colLim (B125) (Y125)
theorem okLI125 : IterOK Tryz.prog 125 encs125 (cap125 LD125) := it125 (coll_colLim _ _)
noncomputable def Lg50_3 : List El125 → sh50_3.den → Option (sh50_3.den ⊕ denX w50_3) := foldR (S50_3)
noncomputable def L50 : (SV.denL ps50) → Option (rs50).den := F50 L57 L95 LD125 Lg50_3
theorem okL50 : CallOK Tryz.prog 50 (mkCall ps50 rs50 L50) := call50 okLI125 okL57 okL95 rfl
noncomputable def Lg27_7 : sh27_7.den → Option (denX w27_7) := limL (S27_7 L72)
noncomputable def L27 : (SV.denL ps27) → Option (rs27).den := F27 L59 Lg27_7
theorem okL27 : CallOK Tryz.prog 27 (mkCall ps27 rs27 L27) := call27 okL59 okL72 (lim_limL _)
noncomputable def Lg51_2 : sh51_2.den → Option (denX w51_2) := limL (S51_2)
noncomputable def L51 : (SV.denL ps51) → Option (rs51).den := F51 Lg51_2
theorem okL51 : CallOK Tryz.prog 51 (mkCall ps51 rs51 L51) := call51 (lim_limL _)
noncomputable def L21 : (SV.denL ps21) → Option (rs21).den := F21 L47 L50
theorem okL21 : CallOK Tryz.prog 21 (mkCall ps21 rs21 L21) := call21 okL47 okL50
abbrev L104 : (SV.denL ps104) → Option (rs104).den := F104
theorem okL104 : CallOK Tryz.prog 104 (mkCall ps104 rs104 L104) := call104
abbrev L105 : (SV.denL ps105) → Option (rs105).den := F105
theorem okL105 : CallOK Tryz.prog 105 (mkCall ps105 rs105 L105) := call105
noncomputable def L103 : (SV.denL ps103) → Option (rs103).den := F103 L104 L105
theorem okL103 : CallOK Tryz.prog 103 (mkCall ps103 rs103 L103) := call103 okL104 okL105
noncomputable def Lg102_3 : sh102_3.den → Option (denX w102_3) := limL (S102_3 L103)
noncomputable def L102 : (SV.denL ps102) → Option (rs102).den := F102 Lg102_3
theorem okL102 : CallOK Tryz.prog 102 (mkCall ps102 rs102 L102) := call102 okL103 (lim_limL _)
noncomputable def Lg106_1 : sh106_1.den → Option (denX w106_1) := limL (S106_1)
noncomputable def L106 : (psh106.den) → Option (rs106).den := F106 Lg106_1
theorem okL106 : CallOK Tryz.prog 106 (mkCallB psh106 rs106 m106 1 L106) := call106 (lim_limL _)
noncomputable def Lg136_1 : sh136_1.den → Option (denX w136_1) := limL (S136_1)
noncomputable def L136 : (SV.denL ps136) → Option (rs136).den := F136 Lg136_1
theorem okL136 : CallOK Tryz.prog 136 (mkCall ps136 rs136 L136) := call136 (lim_limL _)
noncomputable def L107 : (SV.denL ps107) → Option (rs107).den := F107 L136
theorem okL107 : CallOK Tryz.prog 107 (mkCall ps107 rs107 L107) := call107 okL136
abbrev L108 : (SV.denL ps108) → Option (rs108).den := F108
theorem okL108 : CallOK Tryz.prog 108 (mkCall ps108 rs108 L108) := call108
noncomputable def L66 : (SV.denL ps66) → Option (rs66).den := F66 L102 L106 L107 L108
theorem okL66 : CallOK Tryz.prog 66 (mkCall ps66 rs66 L66) := call66 okL102 okL106 okL107 okL108
noncomputable def Lg65_4 : sh65_4.den → Option (denX w65_4) := limL (S65_4)
noncomputable def L65 : (SV.denL ps65) → Option (rs65).den := F65 L101 Lg65_4
theorem okL65 : CallOK Tryz.prog 65 (mkCall ps65 rs65 L65) := call65 okL101 (lim_limL _)
noncomputable def L71 : (SV.denL ps71) → Option (rs71).den := F71 L46
theorem okL71 : CallOK Tryz.prog 71 (mkCall ps71 rs71 L71) := call71 okL46
noncomputable def L28 : (SV.denL ps28) → Option (rs28).den := F28
theorem okL28 : CallOK Tryz.prog 28 (mkCall ps28 rs28 L28) := call28
noncomputable def L141 : (SV.denL ps141) → Option (rs141).den := F141
theorem okL141 : CallOK Tryz.prog 141 (mkCall ps141 rs141 L141) := call141
noncomputable def Lg114_4 : sh114_4.den → Option (denX w114_4) := limL (S114_4 L141)
noncomputable def L114 : (SV.denL ps114) → Option (rs114).den := F114 L101 Lg114_4
theorem okL114 : CallOK Tryz.prog 114 (mkCall ps114 rs114 L114) := call114 okL101 okL141 (lim_limL _)
noncomputable def Lg116_5 : sh116_5.den → Option (denX w116_5) := limL (S116_5 L141)
noncomputable def L116 : (SV.denL ps116) → Option (rs116).den := F116 L101 Lg116_5
theorem okL116 : CallOK Tryz.prog 116 (mkCall ps116 rs116 L116) := call116 okL101 okL141 (lim_limL _)
noncomputable def L74 : (SV.denL ps74) → Option (rs74).den := F74 L94 L114 L115 L116
theorem okL74 : CallOK Tryz.prog 74 (mkCall ps74 rs74 L74) := call74 okL114 okL115 okL116 okL94
noncomputable def L76 : (SV.denL ps76) → Option (rs76).den := F76 L115
theorem okL76 : CallOK Tryz.prog 76 (mkCall ps76 rs76 L76) := call76 okL115
noncomputable def L75 : (SV.denL ps75) → Option (rs75).den := F75 L74 L76
theorem okL75 : CallOK Tryz.prog 75 (mkCall ps75 rs75 L75) := call75 okL74 okL76
noncomputable def Lg77_3 : List El125 → sh77_3.den → Option (sh77_3.den ⊕ denX w77_3) := foldR (S77_3 L65 L114)
noncomputable def L77 : (SV.denL ps77) → Option (rs77).den := F77 L95 L115 LD125 Lg77_3
theorem okL77 : CallOK Tryz.prog 77 (mkCall ps77 rs77 L77) := call77 okLI125 okL114 okL115 okL65 okL95 rfl
noncomputable def L73 : (SV.denL ps73) → Option (rs73).den := F73 L41 L55 L66 L74 L75 L77 L81
theorem okL73 : CallOK Tryz.prog 73 (mkCall ps73 rs73 L73) := call73 okL41 okL55 okL66 okL74 okL75 okL77 okL81
noncomputable def L29 : (SV.denL ps29) → Option (rs29).den := F29 L73
theorem okL29 : CallOK Tryz.prog 29 (mkCall ps29 rs29 L29) := call29 okL73
noncomputable def L30 : (SV.denL ps30) → Option (rs30).den := F30 L73
theorem okL30 : CallOK Tryz.prog 30 (mkCall ps30 rs30 L30) := call30 okL73
noncomputable def L31 : (SV.denL ps31) → Option (rs31).den := F31 L73
theorem okL31 : CallOK Tryz.prog 31 (mkCall ps31 rs31 L31) := call31 okL73
noncomputable def Lg117_8 : sh117_8.den → Option (denX w117_8) := limL (S117_8 L65 L94)
noncomputable def Lg117_4 : List El125 → sh117_4.den → Option (sh117_4.den ⊕ denX w117_4) := foldR (S117_4 L65 L101 L116 Lg117_8)
noncomputable def L117 : (SV.denL ps117) → Option (rs117).den := F117 L95 L101 LD125 Lg117_4
theorem okL117 : CallOK Tryz.prog 117 (mkCall ps117 rs117 L117) := call117 okLI125 okL101 okL116 okL65 okL94 okL95 (lim_limL _) rfl
noncomputable def L79 : (SV.denL ps79) → Option (rs79).den := F79 L115 L117
theorem okL79 : CallOK Tryz.prog 79 (mkCall ps79 rs79 L79) := call79 okL115 okL117
noncomputable def L80 : (SV.denL ps80) → Option (rs80).den := F80 L74 L79 L81
theorem okL80 : CallOK Tryz.prog 80 (mkCall ps80 rs80 L80) := call80 okL74 okL79 okL81
noncomputable def L78 : (SV.denL ps78) → Option (rs78).den := F78 L41 L55 L56 L66 L79 L80 L81
theorem okL78 : CallOK Tryz.prog 78 (mkCall ps78 rs78 L78) := call78 okL41 okL55 okL56 okL66 okL79 okL80 okL81
noncomputable def L32 : (SV.denL ps32) → Option (rs32).den := F32 L78
theorem okL32 : CallOK Tryz.prog 32 (mkCall ps32 rs32 L32) := call32 okL78
noncomputable def L33 : (SV.denL ps33) → Option (rs33).den := F33 L78
theorem okL33 : CallOK Tryz.prog 33 (mkCall ps33 rs33 L33) := call33 okL78
noncomputable def L34 : (SV.denL ps34) → Option (rs34).den := F34 L27 L51 L52 L68 L71
theorem okL34 : CallOK Tryz.prog 34 (mkCall ps34 rs34 L34) := call34 okL27 okL51 okL52 okL68 okL71
noncomputable def L35 : (SV.denL ps35) → Option (rs35).den := F35 L27 L51 L52 L71 L82
theorem okL35 : CallOK Tryz.prog 35 (mkCall ps35 rs35 L35) := call35 okL27 okL51 okL52 okL71 okL82
noncomputable def L36 : (SV.denL ps36) → Option (rs36).den := F36 L27 L51 L52 L69 L71
theorem okL36 : CallOK Tryz.prog 36 (mkCall ps36 rs36 L36) := call36 okL27 okL51 okL52 okL69 okL71
noncomputable def Lg9_2 : sh9_2.den → Option (denX w9_2) := limL (S9_2)
noncomputable def L9 : (SV.denL ps9) → Option (rs9).den := F9 Lg9_2
theorem okL9 : CallOK Tryz.prog 9 (mkCall ps9 rs9 L9) := call9 (lim_limL _)
end Go.Proofs.Rf
