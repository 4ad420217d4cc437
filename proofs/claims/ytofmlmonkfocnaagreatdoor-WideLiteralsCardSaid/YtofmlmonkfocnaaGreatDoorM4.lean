/- Texts put together: Q01, EQ010, EQ011, L01, W1, W2. -/
import Derived.Test.YtofmlmonkfocnaaGreatDoorM3
/- The functions of the program as functions over data. -/
set_option linter.unusedVariables false
namespace Go.Proofs.Rf
open Go Go.RowKit
abbrev tb : Tab := tabOf tyTab
theorem mixed : Tryz.prog.follows .mixedOrders = true := by kernel_rfl
abbrev tN : Ty := .sl (.int .u32)
abbrev tU : Ty := .int .u32
abbrev tI : Ty := .int .i64
abbrev tZ : Ty := .pr .bool tN
abbrev tS : Ty := .str
abbrev El125 := Int × Int
abbrev psh125 : Shape := ⟨[(1, .pt 0 0)], [.box 83 [.d false tN]]⟩
abbrev head125 : Shape := ⟨[(1, .pt 0 0), (3, .d false tI)], [.box 83 [.d false tN]]⟩
abbrev Dt125 := psh125.den → Option (List El125)
def avs125 (e : El125) : List AV := [.d tI e.1, .d tU e.2]
def encs125 (e : El125) : List Value := [.int .i64 e.1, .int .u32 e.2]
abbrev cap125 (D : Dt125) : (Nat → Blk) → List AV → Option (List El125) := capG psh125 D
theorem rel125 (w : World) (ok : Nat → Prop) (ι : Nat → Option Value) (e : El125) : RelL w ok ι (avs125 e) (encs125 e) := RelL_cons.2 ⟨_, _, rfl, rel_int.2 rfl, RelL_cons.2 ⟨_, _, rfl, rel_int.2 rfl, RelL_nil.2 rfl⟩⟩
def elOf125 : List AV → Option El125
  | [.d (.int .i64) i, .d (.int .u32) x] => some (i, x)
  | _ => none
theorem el125 (args : List AV) (e : El125) (w : World) (ok : Nat → Prop) (ι : Nat → Option Value) (vals : List Value) (h : elOf125 args = some e) (hr : RelL w ok ι args vals) : vals = encs125 e := by
  unfold elOf125 at h
  split at h
  · injection h with h
    subst h
    obtain ⟨v, vr, e1, h1, h2⟩ := RelL_cons.1 hr
    obtain ⟨v', vr', e2, h3, h4⟩ := RelL_cons.1 h2
    rw [e1, e2, rel_int.1 h1, rel_int.1 h3, RelL_nil.1 h4]
    rfl
  · cases h
noncomputable def B125 : psh125.den → Option head125.den := startY tb (lookL []) (roundOk (upTo 19) (rangeN 0 2)) (lookL []) (some (preOf Tryz.f125)) head125 psh125
noncomputable def Y125 : head125.den → Option (RY head125.den El125) := stepY tb (lookL []) (roundOk (upTo 19) (rangeN 0 2)) (lookL []) 3 6 head125 head125 elOf125 0 (loopOf Tryz.f125 1)
theorem it125 {D : Dt125} (hD : Coll B125 Y125 D) : IterOK Tryz.prog 125 encs125 (cap125 D) :=
  iterOK_at mixed tabOK (Δ := []) trivial ⟨Tryz.func125, by kernel_rfl, by kernel_rfl, by kernel_rfl, by kernel_rfl, by kernel_rfl, by kernel_rfl, by kernel_rfl, by kernel_rfl, by kernel_rfl, by kernel_rfl, by kernel_rfl, by kernel_rfl, by kernel_rfl⟩ el125
    (loopsAt_zip (Λ := []) (cs := []) (by kernel_rfl) (by kernel_rfl) (by kernel_rfl) trivial) (fun p hp => by injection hp with hp; subst hp; exact loopsAt_zip (Λ := []) (cs := []) (by kernel_rfl) (by kernel_rfl) (by kernel_rfl) trivial) hD
abbrev El142 := List UInt8
abbrev psh142 : Shape := ⟨[(1, .pt 0 0)], [.box 9 [.d false .str]]⟩
abbrev head142 : Shape := ⟨[(1, .pt 0 0), (3, .d false tI)], [.box 9 [.d false .str]]⟩
abbrev Dt142 := psh142.den → Option (List El142)
def avs142 (e : El142) : List AV := [.d .str e]
def encs142 (e : El142) : List Value := [.string ⟨e.toArray⟩]
abbrev cap142 (D : Dt142) : (Nat → Blk) → List AV → Option (List El142) := capG psh142 D
theorem rel142 (w : World) (ok : Nat → Prop) (ι : Nat → Option Value) (e : El142) : RelL w ok ι (avs142 e) (encs142 e) := RelL_cons.2 ⟨_, _, rfl, rel_str.2 rfl, RelL_nil.2 rfl⟩
def elOf142 : List AV → Option El142
  | [.d .str x] => some x
  | _ => none
theorem el142 (args : List AV) (e : El142) (w : World) (ok : Nat → Prop) (ι : Nat → Option Value) (vals : List Value) (h : elOf142 args = some e) (hr : RelL w ok ι args vals) : vals = encs142 e := by
  unfold elOf142 at h
  split at h
  · injection h with h
    subst h
    obtain ⟨v, vr, e1, h1, h2⟩ := RelL_cons.1 hr
    rw [e1, rel_str.1 h1, RelL_nil.1 h2]
    rfl
  · cases h
noncomputable def B142 : psh142.den → Option head142.den := startY tb (lookL []) (roundOk (upTo 19) (rangeN 0 2)) (lookL []) (some (preOf Tryz.f142)) head142 psh142
noncomputable def Y142 : head142.den → Option (RY head142.den El142) := stepY tb (lookL []) (roundOk (upTo 19) (rangeN 0 2)) (lookL []) 3 7 head142 head142 elOf142 0 (loopOf Tryz.f142 1)
theorem it142 {D : Dt142} (hD : Coll B142 Y142 D) : IterOK Tryz.prog 142 encs142 (cap142 D) :=
  iterOK_at mixed tabOK (Δ := []) trivial ⟨Tryz.func142, by kernel_rfl, by kernel_rfl, by kernel_rfl, by kernel_rfl, by kernel_rfl, by kernel_rfl, by kernel_rfl, by kernel_rfl, by kernel_rfl, by kernel_rfl, by kernel_rfl, by kernel_rfl, by kernel_rfl⟩ el142
    (loopsAt_zip (Λ := []) (cs := []) (by kernel_rfl) (by kernel_rfl) (by kernel_rfl) trivial) (fun p hp => by injection hp with hp; subst hp; exact loopsAt_zip (Λ := []) (cs := []) (by kernel_rfl) (by kernel_rfl) (by kernel_rfl) trivial) hD
/-- Join: the elements, the separator between them. -/
abbrev ps108 : List SV := [.d false (.sl .str), .d false .str]
abbrev rs108 : Shape := rsStr
def joinOk (xs : List (List UInt8)) (sep : List UInt8) : Bool := Nat.ble xs.length 1000000 && Nat.ble (Lib.join xs sep).length 1000000
def F108 : SV.denL ps108 → Option rs108.den := fun x => if joinOk x.1 x.2.1 = true then some ((Lib.join x.1 x.2.1, ()), ()) else none
theorem strs_cells {w : World} {ok : Nat → Prop} : ∀ (xs : List (List UInt8)) (cs : List Value), RzL (Rz w ok .str) xs cs → ∀ (j : Nat) (x : ByteArray), (xs.map fun s => (⟨s.toArray⟩ : ByteArray))[j]? = some x → cs[j]? = some (.string x)
  | [], cs, _, j, x, hx => by simp at hx
  | s :: xs, cs, h, j, x, hx => by
    obtain ⟨us, vr, e, h1, h2⟩ := h
    have h1 : us = [.string ⟨s.toArray⟩] := h1
    subst h1
    subst e
    cases j with
    | zero =>
      simp only [List.map_cons, List.getElem?_cons_zero] at hx
      injection hx with hx
      subst hx
      rfl
    | succ j => exact strs_cells xs vr h2 j x (by simpa using hx)
theorem call108 : CallOK Tryz.prog 108 (mkCall ps108 rs108 F108) := by
  refine mkCall_given Tryz.func108 (by kernel_rfl) (by kernel_rfl) ?_
  intro w ok x vs s hok _ hr hF
  unfold F108 at hF
  split at hF
  · rename_i hj
    obtain ⟨xs, sep, ⟨⟩⟩ := x
    injection hF with hF
    injection hF with hF _
    injection hF with hF _
    subst hF
    unfold joinOk at hj
    rw [Bool.and_eq_true] at hj
    have j1 := Nat.le_of_ble_eq_true hj.1
    have j2 := Nat.le_of_ble_eq_true hj.2
    simp only at j1 j2
    obtain ⟨v1, vr, e1, h1, h2⟩ := RelL_cons.1 (show RelL w ok _ [.d (.sl .str) xs, .d .str sep] vs from hr)
    obtain ⟨v2, vr2, e2, h3, h4⟩ := RelL_cons.1 h2
    rw [RelL_nil.1 h4] at e2
    subst e2; subst e1
    rw [rel_str] at h3
    subst h3
    simp only [RelV] at h1
    obtain ⟨A, c, e, hc, hh⟩ := h1
    injection e with e _
    subst e
    have hmap : (xs.map fun s => (⟨s.toArray⟩ : ByteArray)).map (fun b => b.data.toList) = xs := by
      rw [List.map_map]
      exact List.map_id' _ |>.symm ▸ (by simp)
    rcases Nat.eq_zero_or_pos xs.length with h0 | h0
    · obtain rfl := List.length_eq_zero_iff.1 h0
      exact (Tryz.strings_Join_none A c _ w).mono fun e w' ⟨h1, h2⟩ => ⟨h1, h2 ▸ Below.refl _ _⟩
    · obtain ⟨g, o, cs, rfl, hg, hcs, hcell⟩ := hh h0
      have hJ := Tryz.strings_Join g o c (xs.map fun s => (⟨s.toArray⟩ : ByteArray)) ⟨sep.toArray⟩ w (fun j x hx => hcell j _ (strs_cells xs cs hcs j x hx)) (hok g hg) (by rw [List.length_map]; omega) (by rw [List.length_map]; exact hc) (by rw [hmap]; simp only; omega)
      rw [hmap, List.length_map] at hJ
      exact hJ
  · cases hF
theorem tab10 {w : World} {ok : Nat → Prop} (hg : GlOK w ok) : Lib.TabIs Tryz.prog w "internal/strconv.uint64pow10" .u64 Lib.pow10Tab := by
  obtain ⟨_, _, e, fz, hh⟩ := hg 1 _ rfl
  unfold Lib.TabIs World.var?
  rw [show Tryz.prog.globalNamed "internal/strconv.uint64pow10" = some 1 by kernel_rfl, Option.bind_some, hh]
  exact congrArg some (by kernel_rfl)
/-- Repeat: so many copies. -/
abbrev ps105 : List SV := [.d false .str, .d false tI]
abbrev rs105 : Shape := rsStr
def repOk (s : List UInt8) (c : Int) : Bool := decide (0 ≤ c) && (decide (c ≤ 1000000) && Nat.ble (s.length * c.toNat) 1000000)
def F105 : SV.denL ps105 → Option rs105.den := fun x => if repOk x.1 x.2.1 = true then some ((Lib.repeatL x.1 x.2.1.toNat, ()), ()) else none
theorem call105 : CallOK Tryz.prog 105 (mkCall ps105 rs105 F105) := by
  refine mkCall_given Tryz.func105 (by kernel_rfl) (by kernel_rfl) ?_
  intro w ok x vs s hok hg hr hF
  unfold F105 at hF
  split at hF
  · rename_i hj
    obtain ⟨s0, c, ⟨⟩⟩ := x
    injection hF with hF
    injection hF with hF _
    injection hF with hF _
    subst hF
    unfold repOk at hj
    rw [Bool.and_eq_true, Bool.and_eq_true] at hj
    have j0 : @LE.le Int _ 0 c := of_decide_eq_true hj.1
    have j1 : @LE.le Int _ c 1000000 := of_decide_eq_true hj.2.1
    have j2 := Nat.le_of_ble_eq_true hj.2.2
    simp only at j2
    obtain ⟨v1, vr, e1, h1, h2⟩ := RelL_cons.1 (show RelL w ok _ [.d .str s0, .d (.int .i64) c] vs from hr)
    obtain ⟨v2, vr2, e2, h3, h4⟩ := RelL_cons.1 h2
    rw [RelL_nil.1 h4] at e2
    subst e2; subst e1
    rw [rel_str] at h1
    rw [rel_int] at h3
    subst h1; subst h3
    have key : ∀ c : Int, 0 ≤ c → c ≤ 1000000 → s0.length * c.toNat ≤ 1000000 → Calls Tryz.prog 105 #[.string ⟨s0.toArray⟩, .int .i64 c] w fun e w' => e = .returned (.string ⟨(Lib.repeatL s0 c.toNat).toArray⟩) ∧ Below w.heap.size w w' := by
      intro c k0 k1 k2
      obtain ⟨n, rfl⟩ : ∃ n : Nat, c = (n : Int) := ⟨c.toNat, (Int.toNat_of_nonneg k0).symm⟩
      exact Tryz.strings_Repeat ⟨s0.toArray⟩ n w (by omega) (by rw [size_mk]; rw [Int.toNat_natCast] at k2; omega)
    exact key c j0 j1 j2
  · cases hF
/-- How many digits a number has. -/
abbrev ps127 : List SV := [.d false (.int .u64)]
abbrev rs127 : Shape := rsInt .i64
def u64Ok (n : Int) : Bool := decide (1 ≤ n) && decide (n < 18446744073709551616)
def F127 : SV.denL ps127 → Option rs127.den := fun x => if u64Ok x.1 = true then some (((Lib.nDigits x.1.toNat : Nat), ()), ()) else none
theorem call127 : CallOK Tryz.prog 127 (mkCall ps127 rs127 F127) := by
  refine mkCall_givenI Tryz.func127 (by kernel_rfl) (by kernel_rfl) ?_
  intro w ok x vs s hok hg hr hF
  unfold F127 at hF
  split at hF
  · rename_i hj
    obtain ⟨n, ⟨⟩⟩ := x
    injection hF with hF
    injection hF with hF _
    injection hF with hF _
    subst hF
    unfold u64Ok at hj
    rw [Bool.and_eq_true] at hj
    have j0 : @LE.le Int _ 1 n := of_decide_eq_true hj.1
    have j1 : @LT.lt Int _ n 18446744073709551616 := of_decide_eq_true hj.2
    obtain ⟨v1, vr, e1, h1, h2⟩ := RelL_cons.1 (show RelL w ok _ [.d (.int .u64) n] vs from hr)
    rw [RelL_nil.1 h2] at e1
    subst e1
    rw [rel_int] at h1
    subst h1
    have key : ∀ n : Int, 1 ≤ n → n < 18446744073709551616 → Calls Tryz.prog 127 #[.int .u64 n] w fun e w' => e = .returned (.int .i64 (Lib.nDigits n.toNat : Nat)) ∧ Below w.heap.size w w' := by
      intro n k0 k1
      obtain ⟨m, rfl⟩ : ∃ m : Nat, n = (m : Int) := ⟨n.toNat, (Int.toNat_of_nonneg (by omega)).symm⟩
      refine (Tryz.internal_strconv_numDigits m (by omega) (by omega) w (tab10 hg)).mono ?_
      rintro e w' ⟨h1, rfl⟩
      exact ⟨h1, Below.refl _ _⟩
    exact key n j0 j1
  · cases hF
/-- Itoa: the decimal numeral. -/
abbrev ps104 : List SV := [.d false tI]
abbrev rs104 : Shape := rsStr
def i64Ok (n : Int) : Bool := decide (-9223372036854775808 ≤ n) && decide (n ≤ 9223372036854775807)
def F104 : SV.denL ps104 → Option rs104.den := fun x => if i64Ok x.1 = true then some ((Lib.itoa x.1, ()), ()) else none
theorem call104 : CallOK Tryz.prog 104 (mkCall ps104 rs104 F104) := by
  refine mkCall_given Tryz.func104 (by kernel_rfl) (by kernel_rfl) ?_
  intro w ok x vs s hok hg hr hF
  unfold F104 at hF
  split at hF
  · rename_i hj
    obtain ⟨n, ⟨⟩⟩ := x
    injection hF with hF
    injection hF with hF _
    injection hF with hF _
    subst hF
    unfold i64Ok at hj
    rw [Bool.and_eq_true] at hj
    obtain ⟨v1, vr, e1, h1, h2⟩ := RelL_cons.1 (show RelL w ok _ [.d (.int .i64) n] vs from hr)
    rw [RelL_nil.1 h2] at e1
    subst e1
    rw [rel_int] at h1
    subst h1
    have htab := tab10 hg
    refine (Tryz.strconv_Itoa n (of_decide_eq_true hj.1) (of_decide_eq_true hj.2) w htab).mono ?_
    rintro e w' ⟨h1, k, os, rfl⟩
    refine ⟨h1, ?_⟩
    exact ⟨rfl, rfl, rfl, by show w.heap.size ≤ (w.heap ++ os).size; rw [Array.size_append]; omega, fun j hj => by show (w.heap ++ os)[j]? = _; rw [Array.getElem?_append_left hj]⟩
  · cases hF
/-! 9 bowline/bowlinelaw01.short -/
abbrev ps9 : List SV := [.d false (.sl tS)]
abbrev rs9 : Shape := ⟨[(0, .d false .bool)], []⟩
abbrev sh9_2 : Shape := ⟨[(5, .d false (.sl tS)), (6, .d false tI), (7, .d false tI)], []⟩
abbrev w9_2 : List Way := [(none, ⟨[(2, .d false .bool)], []⟩), (some 0, ⟨[], []⟩)]
noncomputable def S9_2 : sh9_2.den → Option (sh9_2.den ⊕ denX w9_2) := stepFn tb [] [] (upTo 15) Tryz.f9 2 sh9_2 w9_2
noncomputable def F9 (g9_2 : sh9_2.den → Option (denX w9_2)) : (SV.denL ps9) → Option (rs9).den := runFn tb [] [(2, lp sh9_2 w9_2 g9_2)] Tryz.f9 ps9 rs9
theorem call9 {g9_2 : sh9_2.den → Option (denX w9_2)} (hg9_2 : Lim (S9_2) g9_2) : CallOK Tryz.prog 9 (mkCall ps9 rs9 (F9 g9_2)) :=
  runFn_ok mixed tabOK (Δ := []) trivial ⟨Tryz.func9, rfl, by kernel_rfl, by kernel_rfl, by kernel_rfl, by kernel_rfl⟩ rfl (loopsAt_zip (cs := [.loop (loopOf Tryz.f9 2)]) (by kernel_rfl) (by kernel_rfl) (by kernel_rfl) ⟨stepLim_ok mixed tabOK (Δ := []) trivial hg9_2 (loopsAt_zip (Λ := []) (cs := []) (by kernel_rfl) (by kernel_rfl) (by kernel_rfl) trivial), trivial⟩)
/-! 89 bowline/wide.isDigits -/
abbrev ps89 : List SV := [.d false tS]
abbrev rs89 : Shape := ⟨[(0, .d false .bool)], []⟩
abbrev sh89_2 : Shape := ⟨[(0, .d false tS), (6, .pt 0 0)], [.it]⟩
abbrev w89_2 : List Way := [(none, ⟨[(2, .d false .bool)], []⟩), (some 0, ⟨[(0, .d false tS)], []⟩)]
noncomputable def S89_2 : sh89_2.den → Option (sh89_2.den ⊕ denX w89_2) := stepFn tb [] [] (upTo 27) Tryz.f89 2 sh89_2 w89_2
noncomputable def F89 (g89_2 : sh89_2.den → Option (denX w89_2)) : (SV.denL ps89) → Option (rs89).den := runFn tb [] [(2, lp sh89_2 w89_2 g89_2)] Tryz.f89 ps89 rs89
theorem call89 {g89_2 : sh89_2.den → Option (denX w89_2)} (hg89_2 : Lim (S89_2) g89_2) : CallOK Tryz.prog 89 (mkCall ps89 rs89 (F89 g89_2)) :=
  runFn_ok mixed tabOK (Δ := []) trivial ⟨Tryz.func89, rfl, by kernel_rfl, by kernel_rfl, by kernel_rfl, by kernel_rfl⟩ rfl (loopsAt_zip (cs := [.loop (loopOf Tryz.f89 2)]) (by kernel_rfl) (by kernel_rfl) (by kernel_rfl) ⟨stepLim_ok mixed tabOK (Δ := []) trivial hg89_2 (loopsAt_zip (Λ := []) (cs := []) (by kernel_rfl) (by kernel_rfl) (by kernel_rfl) trivial), trivial⟩)
/-! 121 internal/strconv.Atoi -/
abbrev ps121 : List SV := [.d false tS]
abbrev rs121 : Shape := ⟨[(0, .d false tI), (1, .d false .ic)], []⟩
abbrev sh121_10 : Shape := ⟨[(5, .d false tS), (6, .d false tI), (47, .d false (.sl (.int .u8))), (48, .d false tI), (49, .d false tI)], []⟩
abbrev w121_10 : List Way := [(some 0, ⟨[(5, .d false tS), (6, .d false tI)], []⟩)]
noncomputable def S121_10 : sh121_10.den → Option (sh121_10.den ⊕ denX w121_10) := stepFn tb [] [] (upTo 77) Tryz.f121 10 sh121_10 w121_10
noncomputable def F121 (g121_10 : sh121_10.den → Option (denX w121_10)) : (SV.denL ps121) → Option (rs121).den := runFn tb [] [(10, lp sh121_10 w121_10 g121_10)] Tryz.f121 ps121 rs121
theorem call121 {g121_10 : sh121_10.den → Option (denX w121_10)} (hg121_10 : Lim (S121_10) g121_10) : CallOK Tryz.prog 121 (mkCall ps121 rs121 (F121 g121_10)) :=
  runFn_ok mixed tabOK (Δ := []) trivial ⟨Tryz.func121, rfl, by kernel_rfl, by kernel_rfl, by kernel_rfl, by kernel_rfl⟩ rfl (loopsAt_zip (cs := [.loop (loopOf Tryz.f121 10)]) (by kernel_rfl) (by kernel_rfl) (by kernel_rfl) ⟨stepLim_ok mixed tabOK (Δ := []) trivial hg121_10 (loopsAt_zip (Λ := []) (cs := []) (by kernel_rfl) (by kernel_rfl) (by kernel_rfl) trivial), trivial⟩)
/-! 90 strconv.Atoi -/
abbrev ps90 : List SV := [.d false tS]
abbrev rs90 : Shape := ⟨[(0, .d false tI), (1, .d false .ic)], []⟩
noncomputable def F90 (F121 : (SV.denL ps121) → Option (rs121).den) : (SV.denL ps90) → Option (rs90).den := runFn tb [(121, mkCall ps121 rs121 F121)] [] Tryz.f90 ps90 rs90
theorem call90 {F121 : (SV.denL ps121) → Option (rs121).den} (h121 : CallOK Tryz.prog 121 (mkCall ps121 rs121 F121)) : CallOK Tryz.prog 90 (mkCall ps90 rs90 (F90 F121)) :=
  runFn_ok mixed tabOK (Δ := [(121, mkCall ps121 rs121 F121)]) ⟨.inl h121, trivial⟩ ⟨Tryz.func90, rfl, by kernel_rfl, by kernel_rfl, by kernel_rfl, by kernel_rfl⟩ rfl (loopsAt_zip (Λ := []) (cs := []) (by kernel_rfl) (by kernel_rfl) (by kernel_rfl) trivial)
/-! 42 bowline/wide.read -/
abbrev ps42 : List SV := [.d false tS]
abbrev rs42 : Shape := ⟨[(0, .d true (.pr (.pr tI .bool) tS)), (1, .d false tI)], []⟩
noncomputable def F42 (F89 : (SV.denL ps89) → Option (rs89).den) (F90 : (SV.denL ps90) → Option (rs90).den) : (SV.denL ps42) → Option (rs42).den := runFn tb [(89, mkCall ps89 rs89 F89), (90, mkCall ps90 rs90 F90)] [] Tryz.f42 ps42 rs42
theorem call42 {F89 : (SV.denL ps89) → Option (rs89).den} {F90 : (SV.denL ps90) → Option (rs90).den} (h89 : CallOK Tryz.prog 89 (mkCall ps89 rs89 F89)) (h90 : CallOK Tryz.prog 90 (mkCall ps90 rs90 F90)) : CallOK Tryz.prog 42 (mkCall ps42 rs42 (F42 F89 F90)) :=
  runFn_ok mixed tabOK (Δ := [(89, mkCall ps89 rs89 F89), (90, mkCall ps90 rs90 F90)]) ⟨.inl h89, .inl h90, trivial⟩ ⟨Tryz.func42, rfl, by kernel_rfl, by kernel_rfl, by kernel_rfl, by kernel_rfl⟩ rfl (loopsAt_zip (Λ := []) (cs := []) (by kernel_rfl) (by kernel_rfl) (by kernel_rfl) trivial)
/-! 11 bowline/wide.Width -/
abbrev ps11 : List SV := [.d false tS]
abbrev rs11 : Shape := ⟨[(0, .d false tI), (1, .d false .bool), (2, .d false tI)], []⟩
noncomputable def F11 (F42 : (SV.denL ps42) → Option (rs42).den) : (SV.denL ps11) → Option (rs11).den := runFn tb [(42, mkCall ps42 rs42 F42)] [] Tryz.f11 ps11 rs11
theorem call11 {F42 : (SV.denL ps42) → Option (rs42).den} (h42 : CallOK Tryz.prog 42 (mkCall ps42 rs42 F42)) : CallOK Tryz.prog 11 (mkCall ps11 rs11 (F11 F42)) :=
  runFn_ok mixed tabOK (Δ := [(42, mkCall ps42 rs42 F42)]) ⟨.inl h42, trivial⟩ ⟨Tryz.func11, rfl, by kernel_rfl, by kernel_rfl, by kernel_rfl, by kernel_rfl⟩ rfl (loopsAt_zip (Λ := []) (cs := []) (by kernel_rfl) (by kernel_rfl) (by kernel_rfl) trivial)
/-! 57 bowline/wide.mask -/
abbrev ps57 : List SV := [.d false tI]
abbrev rs57 : Shape := ⟨[(0, .d false (.int .u64))], []⟩
noncomputable def F57 : (SV.denL ps57) → Option (rs57).den := runFn tb [] [] Tryz.f57 ps57 rs57
theorem call57 : CallOK Tryz.prog 57 (mkCall ps57 rs57 (F57)) :=
  runFn_ok mixed tabOK (Δ := []) trivial ⟨Tryz.func57, rfl, by kernel_rfl, by kernel_rfl, by kernel_rfl, by kernel_rfl⟩ rfl (loopsAt_zip (Λ := []) (cs := []) (by kernel_rfl) (by kernel_rfl) (by kernel_rfl) trivial)
/-! 126 internal/strconv.small -/
abbrev ps126 : List SV := [.d false tI]
abbrev rs126 : Shape := ⟨[(0, .d false tS)], []⟩
noncomputable def F126 : (SV.denL ps126) → Option (rs126).den := runFn tb [] [] Tryz.f126 ps126 rs126
theorem call126 : CallOK Tryz.prog 126 (mkCall ps126 rs126 (F126)) :=
  runFn_ok mixed tabOK (Δ := []) trivial ⟨Tryz.func126, rfl, by kernel_rfl, by kernel_rfl, by kernel_rfl, by kernel_rfl⟩ rfl (loopsAt_zip (Λ := []) (cs := []) (by kernel_rfl) (by kernel_rfl) (by kernel_rfl) trivial)
/-! 128 internal/strconv.formatBase10 -/
abbrev psh128z : Shape := ⟨[(0, .rz 0 1), (1, .d false (.int .u64))], [.row (.int .u8) 172]⟩
abbrev m128z : List Nat := [0]
abbrev rs128z : Shape := ⟨[(0, .rz 0 1)], [.row (.int .u8) 172]⟩
abbrev sh128z_1 : Shape := ⟨[(0, .rz 0 1), (1, .d false (.int .u64)), (4, .d false tI)], [.row (.int .u8) 172]⟩
abbrev w128z_1 : List Way := [(some 0, sh128z_1)]
noncomputable def S128z_1 : sh128z_1.den → Option (sh128z_1.den ⊕ denX w128z_1) := stepFn tb [] [] (roundOk (upTo 167) (rangeN 0 1)) Tryz.f128 1 sh128z_1 w128z_1
noncomputable def F128z (g128z_1 : sh128z_1.den → Option (denX w128z_1)) : (psh128z.den) → Option (rs128z).den := runFnB tb [] [(1, lp sh128z_1 w128z_1 g128z_1)] Tryz.f128 psh128z rs128z 1
theorem call128z {g128z_1 : sh128z_1.den → Option (denX w128z_1)} (hg128z_1 : Lim (S128z_1) g128z_1) : CallOK Tryz.prog 128 (mkCallB psh128z rs128z m128z 1 (F128z g128z_1)) :=
  runFnB_ok mixed tabOK (Δ := []) trivial ⟨Tryz.func128, rfl, by kernel_rfl, by kernel_rfl, by kernel_rfl, by kernel_rfl, by kernel_rfl, by kernel_rfl, by kernel_rfl, by kernel_rfl, by kernel_rfl⟩ rfl (loopsAt_zip (cs := [.loop (loopOf Tryz.f128 1)]) (by kernel_rfl) (by kernel_rfl) (by kernel_rfl) ⟨stepLim_ok mixed tabOK (Δ := []) trivial hg128z_1 (loopsAt_zip (Λ := []) (cs := []) (by kernel_rfl) (by kernel_rfl) (by kernel_rfl) trivial), trivial⟩)
/-! 98 internal/strconv.FormatUint -/
abbrev ps98 : List SV := [.d false (.int .u64), .d false tI]
abbrev rs98 : Shape := ⟨[(0, .d false tS)], []⟩
noncomputable def F98 (F126 : (SV.denL ps126) → Option (rs126).den) (F127 : (SV.denL ps127) → Option (rs127).den) (F128z : (psh128z.den) → Option (rs128z).den) : (SV.denL ps98) → Option (rs98).den := runFn tb [(126, mkCall ps126 rs126 F126), (127, mkCall ps127 rs127 F127), (128, mkCallB psh128z rs128z m128z 1 F128z)] [] Tryz.f98 ps98 rs98
theorem call98 {F126 : (SV.denL ps126) → Option (rs126).den} {F127 : (SV.denL ps127) → Option (rs127).den} {F128z : (psh128z.den) → Option (rs128z).den} (h126 : CallOK Tryz.prog 126 (mkCall ps126 rs126 F126)) (h127 : CallOK Tryz.prog 127 (mkCall ps127 rs127 F127)) (h128z : CallOK Tryz.prog 128 (mkCallB psh128z rs128z m128z 1 F128z)) : CallOK Tryz.prog 98 (mkCall ps98 rs98 (F98 F126 F127 F128z)) :=
  runFn_ok mixed tabOK (Δ := [(126, mkCall ps126 rs126 F126), (127, mkCall ps127 rs127 F127), (128, mkCallB psh128z rs128z m128z 1 F128z)]) ⟨.inl h126, .inl h127, .inl h128z, trivial⟩ ⟨Tryz.func98, rfl, by kernel_rfl, by kernel_rfl, by kernel_rfl, by kernel_rfl⟩ rfl (loopsAt_zip (Λ := []) (cs := []) (by kernel_rfl) (by kernel_rfl) (by kernel_rfl) trivial)
/-! 58 strconv.FormatUint -/
abbrev ps58 : List SV := [.d false (.int .u64), .d false tI]
abbrev rs58 : Shape := ⟨[(0, .d false tS)], []⟩
noncomputable def F58 (F98 : (SV.denL ps98) → Option (rs98).den) : (SV.denL ps58) → Option (rs58).den := runFn tb [(98, mkCall ps98 rs98 F98)] [] Tryz.f58 ps58 rs58
theorem call58 {F98 : (SV.denL ps98) → Option (rs98).den} (h98 : CallOK Tryz.prog 98 (mkCall ps98 rs98 F98)) : CallOK Tryz.prog 58 (mkCall ps58 rs58 (F58 F98)) :=
  runFn_ok mixed tabOK (Δ := [(98, mkCall ps98 rs98 F98)]) ⟨.inl h98, trivial⟩ ⟨Tryz.func58, rfl, by kernel_rfl, by kernel_rfl, by kernel_rfl, by kernel_rfl⟩ rfl (loopsAt_zip (Λ := []) (cs := []) (by kernel_rfl) (by kernel_rfl) (by kernel_rfl) trivial)
/-! 44 (bowline/wide.integer).limits -/
abbrev ps44 : List SV := [.d true (.pr tI .bool)]
abbrev rs44 : Shape := ⟨[(0, .d true (.pr tS tS))], []⟩
noncomputable def F44 (F57 : (SV.denL ps57) → Option (rs57).den) (F58 : (SV.denL ps58) → Option (rs58).den) : (SV.denL ps44) → Option (rs44).den := runFn tb [(57, mkCall ps57 rs57 F57), (58, mkCall ps58 rs58 F58)] [] Tryz.f44 ps44 rs44
theorem call44 {F57 : (SV.denL ps57) → Option (rs57).den} {F58 : (SV.denL ps58) → Option (rs58).den} (h57 : CallOK Tryz.prog 57 (mkCall ps57 rs57 F57)) (h58 : CallOK Tryz.prog 58 (mkCall ps58 rs58 F58)) : CallOK Tryz.prog 44 (mkCall ps44 rs44 (F44 F57 F58)) :=
  runFn_ok mixed tabOK (Δ := [(57, mkCall ps57 rs57 F57), (58, mkCall ps58 rs58 F58)]) ⟨.inl h57, .inl h58, trivial⟩ ⟨Tryz.func44, rfl, by kernel_rfl, by kernel_rfl, by kernel_rfl, by kernel_rfl⟩ rfl (loopsAt_zip (Λ := []) (cs := []) (by kernel_rfl) (by kernel_rfl) (by kernel_rfl) trivial)
/-! 13 bowline/wide.Limits -/
abbrev ps13 : List SV := [.d false tS]
abbrev rs13 : Shape := ⟨[(0, .d false tS), (1, .d false tS), (2, .d false tI)], []⟩
noncomputable def F13 (F42 : (SV.denL ps42) → Option (rs42).den) (F44 : (SV.denL ps44) → Option (rs44).den) : (SV.denL ps13) → Option (rs13).den := runFn tb [(42, mkCall ps42 rs42 F42), (44, mkCall ps44 rs44 F44)] [] Tryz.f13 ps13 rs13
theorem call13 {F42 : (SV.denL ps42) → Option (rs42).den} {F44 : (SV.denL ps44) → Option (rs44).den} (h42 : CallOK Tryz.prog 42 (mkCall ps42 rs42 F42)) (h44 : CallOK Tryz.prog 44 (mkCall ps44 rs44 F44)) : CallOK Tryz.prog 13 (mkCall ps13 rs13 (F13 F42 F44)) :=
  runFn_ok mixed tabOK (Δ := [(42, mkCall ps42 rs42 F42), (44, mkCall ps44 rs44 F44)]) ⟨.inl h42, .inl h44, trivial⟩ ⟨Tryz.func13, rfl, by kernel_rfl, by kernel_rfl, by kernel_rfl, by kernel_rfl⟩ rfl (loopsAt_zip (Λ := []) (cs := []) (by kernel_rfl) (by kernel_rfl) (by kernel_rfl) trivial)
/-! 15 bowline/wide.Check -/
abbrev ps15 : List SV := [.d false tS]
abbrev rs15 : Shape := ⟨[(0, .d false tI)], []⟩
noncomputable def F15 (F42 : (SV.denL ps42) → Option (rs42).den) : (SV.denL ps15) → Option (rs15).den := runFn tb [(42, mkCall ps42 rs42 F42)] [] Tryz.f15 ps15 rs15
theorem call15 {F42 : (SV.denL ps42) → Option (rs42).den} (h42 : CallOK Tryz.prog 42 (mkCall ps42 rs42 F42)) : CallOK Tryz.prog 15 (mkCall ps15 rs15 (F15 F42)) :=
  runFn_ok mixed tabOK (Δ := [(42, mkCall ps42 rs42 F42)]) ⟨.inl h42, trivial⟩ ⟨Tryz.func15, rfl, by kernel_rfl, by kernel_rfl, by kernel_rfl, by kernel_rfl⟩ rfl (loopsAt_zip (Λ := []) (cs := []) (by kernel_rfl) (by kernel_rfl) (by kernel_rfl) trivial)
/-! 55 bowline/wide.first -/
abbrev ps55 : List SV := [.d false (.sl tI)]
abbrev rs55 : Shape := ⟨[(0, .d false tI)], []⟩
abbrev sh55_2 : Shape := ⟨[(5, .d false (.sl tI)), (6, .d false tI), (7, .d false tI)], []⟩
abbrev w55_2 : List Way := [(none, ⟨[(2, .d false tI)], []⟩), (some 0, ⟨[], []⟩)]
noncomputable def S55_2 : sh55_2.den → Option (sh55_2.den ⊕ denX w55_2) := stepFn tb [] [] (upTo 15) Tryz.f55 2 sh55_2 w55_2
noncomputable def F55 (g55_2 : sh55_2.den → Option (denX w55_2)) : (SV.denL ps55) → Option (rs55).den := runFn tb [] [(2, lp sh55_2 w55_2 g55_2)] Tryz.f55 ps55 rs55
theorem call55 {g55_2 : sh55_2.den → Option (denX w55_2)} (hg55_2 : Lim (S55_2) g55_2) : CallOK Tryz.prog 55 (mkCall ps55 rs55 (F55 g55_2)) :=
  runFn_ok mixed tabOK (Δ := []) trivial ⟨Tryz.func55, rfl, by kernel_rfl, by kernel_rfl, by kernel_rfl, by kernel_rfl⟩ rfl (loopsAt_zip (cs := [.loop (loopOf Tryz.f55 2)]) (by kernel_rfl) (by kernel_rfl) (by kernel_rfl) ⟨stepLim_ok mixed tabOK (Δ := []) trivial hg55_2 (loopsAt_zip (Λ := []) (cs := []) (by kernel_rfl) (by kernel_rfl) (by kernel_rfl) trivial), trivial⟩)
/-! 56 bowline/wide.when -/
abbrev ps56 : List SV := [.d false .bool, .d false tI]
abbrev rs56 : Shape := ⟨[(0, .d false tI)], []⟩
noncomputable def F56 : (SV.denL ps56) → Option (rs56).den := runFn tb [] [] Tryz.f56 ps56 rs56
theorem call56 : CallOK Tryz.prog 56 (mkCall ps56 rs56 (F56)) :=
  runFn_ok mixed tabOK (Δ := []) trivial ⟨Tryz.func56, rfl, by kernel_rfl, by kernel_rfl, by kernel_rfl, by kernel_rfl⟩ rfl (loopsAt_zip (Λ := []) (cs := []) (by kernel_rfl) (by kernel_rfl) (by kernel_rfl) trivial)
/-! 100 internal/stringslite.HasPrefix -/
abbrev ps100 : List SV := [.d false tS, .d false tS]
abbrev rs100 : Shape := ⟨[(0, .d false .bool)], []⟩
noncomputable def F100 : (SV.denL ps100) → Option (rs100).den := runFn tb [] [] Tryz.f100 ps100 rs100
theorem call100 : CallOK Tryz.prog 100 (mkCall ps100 rs100 (F100)) :=
  runFn_ok mixed tabOK (Δ := []) trivial ⟨Tryz.func100, rfl, by kernel_rfl, by kernel_rfl, by kernel_rfl, by kernel_rfl⟩ rfl (loopsAt_zip (Λ := []) (cs := []) (by kernel_rfl) (by kernel_rfl) (by kernel_rfl) trivial)
/-! 120 internal/stringslite.CutPrefix -/
abbrev ps120 : List SV := [.d false tS, .d false tS]
abbrev rs120 : Shape := ⟨[(0, .d false tS), (1, .d false .bool)], []⟩
noncomputable def F120 (F100 : (SV.denL ps100) → Option (rs100).den) : (SV.denL ps120) → Option (rs120).den := runFn tb [(100, mkCall ps100 rs100 F100)] [] Tryz.f120 ps120 rs120
theorem call120 {F100 : (SV.denL ps100) → Option (rs100).den} (h100 : CallOK Tryz.prog 100 (mkCall ps100 rs100 F100)) : CallOK Tryz.prog 120 (mkCall ps120 rs120 (F120 F100)) :=
  runFn_ok mixed tabOK (Δ := [(100, mkCall ps100 rs100 F100)]) ⟨.inl h100, trivial⟩ ⟨Tryz.func120, rfl, by kernel_rfl, by kernel_rfl, by kernel_rfl, by kernel_rfl⟩ rfl (loopsAt_zip (Λ := []) (cs := []) (by kernel_rfl) (by kernel_rfl) (by kernel_rfl) trivial)
/-! 88 strings.CutPrefix -/
abbrev ps88 : List SV := [.d false tS, .d false tS]
abbrev rs88 : Shape := ⟨[(0, .d false tS), (1, .d false .bool)], []⟩
noncomputable def F88 (F120 : (SV.denL ps120) → Option (rs120).den) : (SV.denL ps88) → Option (rs88).den := runFn tb [(120, mkCall ps120 rs120 F120)] [] Tryz.f88 ps88 rs88
theorem call88 {F120 : (SV.denL ps120) → Option (rs120).den} (h120 : CallOK Tryz.prog 120 (mkCall ps120 rs120 F120)) : CallOK Tryz.prog 88 (mkCall ps88 rs88 (F88 F120)) :=
  runFn_ok mixed tabOK (Δ := [(120, mkCall ps120 rs120 F120)]) ⟨.inl h120, trivial⟩ ⟨Tryz.func88, rfl, by kernel_rfl, by kernel_rfl, by kernel_rfl, by kernel_rfl⟩ rfl (loopsAt_zip (Λ := []) (cs := []) (by kernel_rfl) (by kernel_rfl) (by kernel_rfl) trivial)
/-! 41 bowline/wide.CheckInt -/
abbrev ps41 : List SV := [.d false tS]
abbrev rs41 : Shape := ⟨[(0, .d false tI)], []⟩
noncomputable def F41 (F55 : (SV.denL ps55) → Option (rs55).den) (F56 : (SV.denL ps56) → Option (rs56).den) (F88 : (SV.denL ps88) → Option (rs88).den) (F89 : (SV.denL ps89) → Option (rs89).den) : (SV.denL ps41) → Option (rs41).den := runFn tb [(55, mkCall ps55 rs55 F55), (56, mkCall ps56 rs56 F56), (88, mkCall ps88 rs88 F88), (89, mkCall ps89 rs89 F89)] [] Tryz.f41 ps41 rs41
theorem call41 {F55 : (SV.denL ps55) → Option (rs55).den} {F56 : (SV.denL ps56) → Option (rs56).den} {F88 : (SV.denL ps88) → Option (rs88).den} {F89 : (SV.denL ps89) → Option (rs89).den} (h55 : CallOK Tryz.prog 55 (mkCall ps55 rs55 F55)) (h56 : CallOK Tryz.prog 56 (mkCall ps56 rs56 F56)) (h88 : CallOK Tryz.prog 88 (mkCall ps88 rs88 F88)) (h89 : CallOK Tryz.prog 89 (mkCall ps89 rs89 F89)) : CallOK Tryz.prog 41 (mkCall ps41 rs41 (F41 F55 F56 F88 F89)) :=
  runFn_ok mixed tabOK (Δ := [(55, mkCall ps55 rs55 F55), (56, mkCall ps56 rs56 F56), (88, mkCall ps88 rs88 F88), (89, mkCall ps89 rs89 F89)]) ⟨.inl h55, .inl h56, .inl h88, .inl h89, trivial⟩ ⟨Tryz.func41, rfl, by kernel_rfl, by kernel_rfl, by kernel_rfl, by kernel_rfl⟩ rfl (loopsAt_zip (Λ := []) (cs := []) (by kernel_rfl) (by kernel_rfl) (by kernel_rfl) trivial)
/-! 101 bowline/wide.trim -/
abbrev ps101 : List SV := [.d false tN]
abbrev rs101 : Shape := ⟨[(0, .d false tN)], []⟩
abbrev sh101_1 : Shape := ⟨[(0, .d false tN)], []⟩
abbrev w101_1 : List Way := [(some 0, sh101_1)]
noncomputable def S101_1 : sh101_1.den → Option (sh101_1.den ⊕ denX w101_1) := stepFn tb [] [] (upTo 21) Tryz.f101 1 sh101_1 w101_1
noncomputable def F101 (g101_1 : sh101_1.den → Option (denX w101_1)) : (SV.denL ps101) → Option (rs101).den := runFn tb [] [(1, lp sh101_1 w101_1 g101_1)] Tryz.f101 ps101 rs101
theorem call101 {g101_1 : sh101_1.den → Option (denX w101_1)} (hg101_1 : Lim (S101_1) g101_1) : CallOK Tryz.prog 101 (mkCall ps101 rs101 (F101 g101_1)) :=
  runFn_ok mixed tabOK (Δ := []) trivial ⟨Tryz.func101, rfl, by kernel_rfl, by kernel_rfl, by kernel_rfl, by kernel_rfl⟩ rfl (loopsAt_zip (cs := [.loop (loopOf Tryz.f101 1)]) (by kernel_rfl) (by kernel_rfl) (by kernel_rfl) ⟨stepLim_ok mixed tabOK (Δ := []) trivial hg101_1 (loopsAt_zip (Λ := []) (cs := []) (by kernel_rfl) (by kernel_rfl) (by kernel_rfl) trivial), trivial⟩)
/-! 115 (bowline/wide.exact).trimmed -/
abbrev ps115 : List SV := [.d true tZ]
abbrev rs115 : Shape := ⟨[(0, .d true tZ)], []⟩
noncomputable def F115 (F101 : (SV.denL ps101) → Option (rs101).den) : (SV.denL ps115) → Option (rs115).den := runFn tb [(101, mkCall ps101 rs101 F101)] [] Tryz.f115 ps115 rs115
theorem call115 {F101 : (SV.denL ps101) → Option (rs101).den} (h101 : CallOK Tryz.prog 101 (mkCall ps101 rs101 F101)) : CallOK Tryz.prog 115 (mkCall ps115 rs115 (F115 F101)) :=
  runFn_ok mixed tabOK (Δ := [(101, mkCall ps101 rs101 F101)]) ⟨.inl h101, trivial⟩ ⟨Tryz.func115, rfl, by kernel_rfl, by kernel_rfl, by kernel_rfl, by kernel_rfl⟩ rfl (loopsAt_zip (Λ := []) (cs := []) (by kernel_rfl) (by kernel_rfl) (by kernel_rfl) trivial)
/-! 118 bowline/wide.pieces -/
abbrev ps118 : List SV := [.d false tS]
abbrev rs118 : Shape := ⟨[(0, .fn 142 [.pt 0 0])], [.box 9 [.d false tS]]⟩
noncomputable def F118 : (SV.denL ps118) → Option (rs118).den := runFn tb [] [] Tryz.f118 ps118 rs118
theorem call118 : CallOK Tryz.prog 118 (mkCall ps118 rs118 (F118)) :=
  runFn_ok mixed tabOK (Δ := []) trivial ⟨Tryz.func118, rfl, by kernel_rfl, by kernel_rfl, by kernel_rfl, by kernel_rfl⟩ rfl (loopsAt_zip (Λ := []) (cs := []) (by kernel_rfl) (by kernel_rfl) (by kernel_rfl) trivial)
/-! 81 bowline/wide.parse -/
abbrev ps81 : List SV := [.d false tS]
abbrev rs81 : Shape := ⟨[(0, .d true tZ)], []⟩
abbrev sh81_4 : Shape := ⟨[(2, .pt 0 0), (5, .pt 1 0)], [.box 85 [.d false .bool, .d false tN], .box 85 [.d false .bool, .rf 2], .row tU 102]⟩
abbrev w81_4 : List Way := []
noncomputable def S81_4 (F90 : (SV.denL ps90) → Option (rs90).den) : El142 → sh81_4.den → Option (sh81_4.den ⊕ denX w81_4) := roundFn tb [(90, mkCall ps90 rs90 F90)] [] (upTo 33) Tryz.f81 4 avs142 [(6, 18)] sh81_4 w81_4
noncomputable def F81 (F88 : (SV.denL ps88) → Option (rs88).den) (F115 : (SV.denL ps115) → Option (rs115).den) (F118 : (SV.denL ps118) → Option (rs118).den) (D142 : Dt142) (g81_4 : List El142 → sh81_4.den → Option (sh81_4.den ⊕ denX w81_4)) : (SV.denL ps81) → Option (rs81).den := runFn tb [(88, mkCall ps88 rs88 F88), (115, mkCall ps115 rs115 F115), (118, mkCall ps118 rs118 F118)] [(4, rangeO (rgG Tryz.f81 4) 142 (cap142 D142) sh81_4 w81_4 g81_4)] Tryz.f81 ps81 rs81
theorem call81 {F115 : (SV.denL ps115) → Option (rs115).den} {F118 : (SV.denL ps118) → Option (rs118).den} {F88 : (SV.denL ps88) → Option (rs88).den} {F90 : (SV.denL ps90) → Option (rs90).den} {g81_4 : List El142 → sh81_4.den → Option (sh81_4.den ⊕ denX w81_4)} {D142 : Dt142} (it142 : IterOK Tryz.prog 142 encs142 (cap142 D142)) (h115 : CallOK Tryz.prog 115 (mkCall ps115 rs115 F115)) (h118 : CallOK Tryz.prog 118 (mkCall ps118 rs118 F118)) (h88 : CallOK Tryz.prog 88 (mkCall ps88 rs88 F88)) (h90 : CallOK Tryz.prog 90 (mkCall ps90 rs90 F90)) (hg81_4 : foldR (S81_4 F90) = g81_4) : CallOK Tryz.prog 81 (mkCall ps81 rs81 (F81 F88 F115 F118 D142 g81_4)) :=
  runFn_ok mixed tabOK (Δ := [(88, mkCall ps88 rs88 F88), (115, mkCall ps115 rs115 F115), (118, mkCall ps118 rs118 F118)]) ⟨.inl h88, .inl h115, .inl h118, trivial⟩ ⟨Tryz.func81, rfl, by kernel_rfl, by kernel_rfl, by kernel_rfl, by kernel_rfl⟩ rfl (loopsAt_zip (cs := [.rangeFunc (rgG Tryz.f81 4) (rgP Tryz.f81 4) (rgA Tryz.f81 4) (rgB Tryz.f81 4)]) (by kernel_rfl) (by kernel_rfl) (by kernel_rfl) ⟨by rw [← hg81_4]; exact roundFn_ok mixed tabOK (Δ := [(90, mkCall ps90 rs90 F90)]) ⟨.inl h90, trivial⟩ it142 ⟨by kernel_rfl, rel142, fun _ => rfl, by kernel_rfl, by kernel_rfl, by kernel_rfl, by kernel_rfl⟩ (loopsAt_zip (Λ := []) (cs := []) (by kernel_rfl) (by kernel_rfl) (by kernel_rfl) trivial), trivial⟩)
/-! 47 bowline/wide.number -/
abbrev ps47 : List SV := [.d false tS, .d false tS]
abbrev rs47 : Shape := ⟨[(0, .d true (.pr tI .bool)), (1, .d true tZ), (2, .d false tI)], []⟩
noncomputable def F47 (F41 : (SV.denL ps41) → Option (rs41).den) (F42 : (SV.denL ps42) → Option (rs42).den) (F55 : (SV.denL ps55) → Option (rs55).den) (F81 : (SV.denL ps81) → Option (rs81).den) : (SV.denL ps47) → Option (rs47).den := runFn tb [(41, mkCall ps41 rs41 F41), (42, mkCall ps42 rs42 F42), (55, mkCall ps55 rs55 F55), (81, mkCall ps81 rs81 F81)] [] Tryz.f47 ps47 rs47
theorem call47 {F41 : (SV.denL ps41) → Option (rs41).den} {F42 : (SV.denL ps42) → Option (rs42).den} {F55 : (SV.denL ps55) → Option (rs55).den} {F81 : (SV.denL ps81) → Option (rs81).den} (h41 : CallOK Tryz.prog 41 (mkCall ps41 rs41 F41)) (h42 : CallOK Tryz.prog 42 (mkCall ps42 rs42 F42)) (h55 : CallOK Tryz.prog 55 (mkCall ps55 rs55 F55)) (h81 : CallOK Tryz.prog 81 (mkCall ps81 rs81 F81)) : CallOK Tryz.prog 47 (mkCall ps47 rs47 (F47 F41 F42 F55 F81)) :=
  runFn_ok mixed tabOK (Δ := [(41, mkCall ps41 rs41 F41), (42, mkCall ps42 rs42 F42), (55, mkCall ps55 rs55 F55), (81, mkCall ps81 rs81 F81)]) ⟨.inl h41, .inl h42, .inl h55, .inl h81, trivial⟩ ⟨Tryz.func47, rfl, by kernel_rfl, by kernel_rfl, by kernel_rfl, by kernel_rfl⟩ rfl (loopsAt_zip (Λ := []) (cs := []) (by kernel_rfl) (by kernel_rfl) (by kernel_rfl) trivial)
/-! 148 cmp.isNaN[int] -/
abbrev ps148 : List SV := [.d false tI]
abbrev rs148 : Shape := ⟨[(0, .d false .bool)], []⟩
noncomputable def F148 : (SV.denL ps148) → Option (rs148).den := runFn tb [] [] Tryz.f148 ps148 rs148
theorem call148 : CallOK Tryz.prog 148 (mkCall ps148 rs148 (F148)) :=
  runFn_ok mixed tabOK (Δ := []) trivial ⟨Tryz.func148, rfl, by kernel_rfl, by kernel_rfl, by kernel_rfl, by kernel_rfl⟩ rfl (loopsAt_zip (Λ := []) (cs := []) (by kernel_rfl) (by kernel_rfl) (by kernel_rfl) trivial)
/-! 123 cmp.Compare[int] -/
abbrev ps123 : List SV := [.d false tI, .d false tI]
abbrev rs123 : Shape := ⟨[(0, .d false tI)], []⟩
noncomputable def F123 (F148 : (SV.denL ps148) → Option (rs148).den) : (SV.denL ps123) → Option (rs123).den := runFn tb [(148, mkCall ps148 rs148 F148)] [] Tryz.f123 ps123 rs123
theorem call123 {F148 : (SV.denL ps148) → Option (rs148).den} (h148 : CallOK Tryz.prog 148 (mkCall ps148 rs148 F148)) : CallOK Tryz.prog 123 (mkCall ps123 rs123 (F123 F148)) :=
  runFn_ok mixed tabOK (Δ := [(148, mkCall ps148 rs148 F148)]) ⟨.inl h148, trivial⟩ ⟨Tryz.func123, rfl, by kernel_rfl, by kernel_rfl, by kernel_rfl, by kernel_rfl⟩ rfl (loopsAt_zip (Λ := []) (cs := []) (by kernel_rfl) (by kernel_rfl) (by kernel_rfl) trivial)
/-! 149 cmp.isNaN[uint32] -/
abbrev ps149 : List SV := [.d false tU]
abbrev rs149 : Shape := ⟨[(0, .d false .bool)], []⟩
noncomputable def F149 : (SV.denL ps149) → Option (rs149).den := runFn tb [] [] Tryz.f149 ps149 rs149
theorem call149 : CallOK Tryz.prog 149 (mkCall ps149 rs149 (F149)) :=
  runFn_ok mixed tabOK (Δ := []) trivial ⟨Tryz.func149, rfl, by kernel_rfl, by kernel_rfl, by kernel_rfl, by kernel_rfl⟩ rfl (loopsAt_zip (Λ := []) (cs := []) (by kernel_rfl) (by kernel_rfl) (by kernel_rfl) trivial)
/-! 124 cmp.Compare[uint32] -/
abbrev ps124 : List SV := [.d false tU, .d false tU]
abbrev rs124 : Shape := ⟨[(0, .d false tI)], []⟩
noncomputable def F124 (F149 : (SV.denL ps149) → Option (rs149).den) : (SV.denL ps124) → Option (rs124).den := runFn tb [(149, mkCall ps149 rs149 F149)] [] Tryz.f124 ps124 rs124
theorem call124 {F149 : (SV.denL ps149) → Option (rs149).den} (h149 : CallOK Tryz.prog 149 (mkCall ps149 rs149 F149)) : CallOK Tryz.prog 124 (mkCall ps124 rs124 (F124 F149)) :=
  runFn_ok mixed tabOK (Δ := [(149, mkCall ps149 rs149 F149)]) ⟨.inl h149, trivial⟩ ⟨Tryz.func124, rfl, by kernel_rfl, by kernel_rfl, by kernel_rfl, by kernel_rfl⟩ rfl (loopsAt_zip (Λ := []) (cs := []) (by kernel_rfl) (by kernel_rfl) (by kernel_rfl) trivial)
/-! 94 bowline/wide.compareSizes -/
abbrev ps94 : List SV := [.d false tN, .d false tN]
abbrev rs94 : Shape := ⟨[(0, .d false tI)], []⟩
abbrev sh94_5 : Shape := ⟨[(0, .d false tN), (1, .d false tN), (6, .d false tI)], []⟩
abbrev w94_5 : List Way := [(none, ⟨[(4, .d false tI)], []⟩), (some 0, ⟨[], []⟩)]
noncomputable def S94_5 (F124 : (SV.denL ps124) → Option (rs124).den) : sh94_5.den → Option (sh94_5.den ⊕ denX w94_5) := stepFn tb [(124, mkCall ps124 rs124 F124)] [] (upTo 35) Tryz.f94 5 sh94_5 w94_5
noncomputable def F94 (F123 : (SV.denL ps123) → Option (rs123).den) (g94_5 : sh94_5.den → Option (denX w94_5)) : (SV.denL ps94) → Option (rs94).den := runFn tb [(123, mkCall ps123 rs123 F123)] [(5, lp sh94_5 w94_5 g94_5)] Tryz.f94 ps94 rs94
theorem call94 {F123 : (SV.denL ps123) → Option (rs123).den} {F124 : (SV.denL ps124) → Option (rs124).den} {g94_5 : sh94_5.den → Option (denX w94_5)} (h123 : CallOK Tryz.prog 123 (mkCall ps123 rs123 F123)) (h124 : CallOK Tryz.prog 124 (mkCall ps124 rs124 F124)) (hg94_5 : Lim (S94_5 F124) g94_5) : CallOK Tryz.prog 94 (mkCall ps94 rs94 (F94 F123 g94_5)) :=
  runFn_ok mixed tabOK (Δ := [(123, mkCall ps123 rs123 F123)]) ⟨.inl h123, trivial⟩ ⟨Tryz.func94, rfl, by kernel_rfl, by kernel_rfl, by kernel_rfl, by kernel_rfl⟩ rfl (loopsAt_zip (cs := [.loop (loopOf Tryz.f94 5)]) (by kernel_rfl) (by kernel_rfl) (by kernel_rfl) ⟨stepLim_ok mixed tabOK (Δ := [(124, mkCall ps124 rs124 F124)]) ⟨.inl h124, trivial⟩ hg94_5 (loopsAt_zip (Λ := []) (cs := []) (by kernel_rfl) (by kernel_rfl) (by kernel_rfl) trivial), trivial⟩)
/-! 49 (bowline/wide.exact).compare -/
abbrev ps49 : List SV := [.d true tZ, .d true tZ]
abbrev rs49 : Shape := ⟨[(0, .d false tI)], []⟩
noncomputable def F49 (F94 : (SV.denL ps94) → Option (rs94).den) : (SV.denL ps49) → Option (rs49).den := runFn tb [(94, mkCall ps94 rs94 F94)] [] Tryz.f49 ps49 rs49
theorem call49 {F94 : (SV.denL ps94) → Option (rs94).den} (h94 : CallOK Tryz.prog 94 (mkCall ps94 rs94 F94)) : CallOK Tryz.prog 49 (mkCall ps49 rs49 (F49 F94)) :=
  runFn_ok mixed tabOK (Δ := [(94, mkCall ps94 rs94 F94)]) ⟨.inl h94, trivial⟩ ⟨Tryz.func49, rfl, by kernel_rfl, by kernel_rfl, by kernel_rfl, by kernel_rfl⟩ rfl (loopsAt_zip (Λ := []) (cs := []) (by kernel_rfl) (by kernel_rfl) (by kernel_rfl) trivial)
/-! 48 (bowline/wide.integer).nearest -/
abbrev ps48 : List SV := [.d true (.pr tI .bool), .d true tZ]
abbrev rs48 : Shape := ⟨[(0, .d true tZ)], []⟩
noncomputable def F48 (F44 : (SV.denL ps44) → Option (rs44).den) (F49 : (SV.denL ps49) → Option (rs49).den) (F81 : (SV.denL ps81) → Option (rs81).den) : (SV.denL ps48) → Option (rs48).den := runFn tb [(44, mkCall ps44 rs44 F44), (49, mkCall ps49 rs49 F49), (81, mkCall ps81 rs81 F81)] [] Tryz.f48 ps48 rs48
theorem call48 {F44 : (SV.denL ps44) → Option (rs44).den} {F49 : (SV.denL ps49) → Option (rs49).den} {F81 : (SV.denL ps81) → Option (rs81).den} (h44 : CallOK Tryz.prog 44 (mkCall ps44 rs44 F44)) (h49 : CallOK Tryz.prog 49 (mkCall ps49 rs49 F49)) (h81 : CallOK Tryz.prog 81 (mkCall ps81 rs81 F81)) : CallOK Tryz.prog 48 (mkCall ps48 rs48 (F48 F44 F49 F81)) :=
  runFn_ok mixed tabOK (Δ := [(44, mkCall ps44 rs44 F44), (49, mkCall ps49 rs49 F49), (81, mkCall ps81 rs81 F81)]) ⟨.inl h44, .inl h49, .inl h81, trivial⟩ ⟨Tryz.func48, rfl, by kernel_rfl, by kernel_rfl, by kernel_rfl, by kernel_rfl⟩ rfl (loopsAt_zip (Λ := []) (cs := []) (by kernel_rfl) (by kernel_rfl) (by kernel_rfl) trivial)
/-! 95 slices.Backward[[]uint32,uint32] -/
abbrev ps95 : List SV := [.d false tN]
abbrev rs95 : Shape := ⟨[(0, .fn 125 [.pt 0 0])], [.box 83 [.d false tN]]⟩
noncomputable def F95 : (SV.denL ps95) → Option (rs95).den := runFn tb [] [] Tryz.f95 ps95 rs95
theorem call95 : CallOK Tryz.prog 95 (mkCall ps95 rs95 (F95)) :=
  runFn_ok mixed tabOK (Δ := []) trivial ⟨Tryz.func95, rfl, by kernel_rfl, by kernel_rfl, by kernel_rfl, by kernel_rfl⟩ rfl (loopsAt_zip (Λ := []) (cs := []) (by kernel_rfl) (by kernel_rfl) (by kernel_rfl) trivial)
/-! 50 (bowline/wide.integer).wrapped -/
abbrev ps50 : List SV := [.d true (.pr tI .bool), .d true tZ]
abbrev rs50 : Shape := ⟨[(0, .d false (.int .u64))], []⟩
abbrev sh50_3 : Shape := ⟨[(2, .pt 0 0), (3, .pt 1 0), (5, .pt 2 0)], [.box 68 [.d false tI, .d false .bool], .box 85 [.d false .bool, .d false tN], .box 36 [.d false (.int .u64)]]⟩
abbrev w50_3 : List Way := []
noncomputable def S50_3 : El125 → sh50_3.den → Option (sh50_3.den ⊕ denX w50_3) := roundFn tb [] [] (upTo 27) Tryz.f50 3 avs125 [(7, 12)] sh50_3 w50_3
noncomputable def F50 (F57 : (SV.denL ps57) → Option (rs57).den) (F95 : (SV.denL ps95) → Option (rs95).den) (D125 : Dt125) (g50_3 : List El125 → sh50_3.den → Option (sh50_3.den ⊕ denX w50_3)) : (SV.denL ps50) → Option (rs50).den := runFn tb [(57, mkCall ps57 rs57 F57), (95, mkCall ps95 rs95 F95)] [(3, rangeO (rgG Tryz.f50 3) 125 (cap125 D125) sh50_3 w50_3 g50_3)] Tryz.f50 ps50 rs50
theorem call50 {F57 : (SV.denL ps57) → Option (rs57).den} {F95 : (SV.denL ps95) → Option (rs95).den} {g50_3 : List El125 → sh50_3.den → Option (sh50_3.den ⊕ denX w50_3)} {D125 : Dt125} (it125 : IterOK Tryz.prog 125 encs125 (cap125 D125)) (h57 : CallOK Tryz.prog 57 (mkCall ps57 rs57 F57)) (h95 : CallOK Tryz.prog 95 (mkCall ps95 rs95 F95)) (hg50_3 : foldR (S50_3) = g50_3) : CallOK Tryz.prog 50 (mkCall ps50 rs50 (F50 F57 F95 D125 g50_3)) :=
  runFn_ok mixed tabOK (Δ := [(57, mkCall ps57 rs57 F57), (95, mkCall ps95 rs95 F95)]) ⟨.inl h57, .inl h95, trivial⟩ ⟨Tryz.func50, rfl, by kernel_rfl, by kernel_rfl, by kernel_rfl, by kernel_rfl⟩ rfl (loopsAt_zip (cs := [.rangeFunc (rgG Tryz.f50 3) (rgP Tryz.f50 3) (rgA Tryz.f50 3) (rgB Tryz.f50 3)]) (by kernel_rfl) (by kernel_rfl) (by kernel_rfl) ⟨by rw [← hg50_3]; exact roundFn_ok mixed tabOK (Δ := []) trivial it125 ⟨by kernel_rfl, rel125, fun _ => rfl, by kernel_rfl, by kernel_rfl, by kernel_rfl, by kernel_rfl⟩ (loopsAt_zip (Λ := []) (cs := []) (by kernel_rfl) (by kernel_rfl) (by kernel_rfl) trivial), trivial⟩)
/-! 17 bowline/wide.FromInt -/
abbrev ps17 : List SV := [.d false tS, .d false tS]
abbrev rs17 : Shape := ⟨[(0, .d false (.int .u64)), (1, .d false tI)], []⟩
noncomputable def F17 (F47 : (SV.denL ps47) → Option (rs47).den) (F48 : (SV.denL ps48) → Option (rs48).den) (F49 : (SV.denL ps49) → Option (rs49).den) (F50 : (SV.denL ps50) → Option (rs50).den) : (SV.denL ps17) → Option (rs17).den := runFn tb [(47, mkCall ps47 rs47 F47), (48, mkCall ps48 rs48 F48), (49, mkCall ps49 rs49 F49), (50, mkCall ps50 rs50 F50)] [] Tryz.f17 ps17 rs17
theorem call17 {F47 : (SV.denL ps47) → Option (rs47).den} {F48 : (SV.denL ps48) → Option (rs48).den} {F49 : (SV.denL ps49) → Option (rs49).den} {F50 : (SV.denL ps50) → Option (rs50).den} (h47 : CallOK Tryz.prog 47 (mkCall ps47 rs47 F47)) (h48 : CallOK Tryz.prog 48 (mkCall ps48 rs48 F48)) (h49 : CallOK Tryz.prog 49 (mkCall ps49 rs49 F49)) (h50 : CallOK Tryz.prog 50 (mkCall ps50 rs50 F50)) : CallOK Tryz.prog 17 (mkCall ps17 rs17 (F17 F47 F48 F49 F50)) :=
  runFn_ok mixed tabOK (Δ := [(47, mkCall ps47 rs47 F47), (48, mkCall ps48 rs48 F48), (49, mkCall ps49 rs49 F49), (50, mkCall ps50 rs50 F50)]) ⟨.inl h47, .inl h48, .inl h49, .inl h50, trivial⟩ ⟨Tryz.func17, rfl, by kernel_rfl, by kernel_rfl, by kernel_rfl, by kernel_rfl⟩ rfl (loopsAt_zip (Λ := []) (cs := []) (by kernel_rfl) (by kernel_rfl) (by kernel_rfl) trivial)
/-! 19 bowline/wide.ToInt -/
abbrev ps19 : List SV := [.d false tS, .d false (.int .u64)]
abbrev rs19 : Shape := ⟨[(0, .d false tS), (1, .d false tI)], []⟩
noncomputable def F19 (F42 : (SV.denL ps42) → Option (rs42).den) (F55 : (SV.denL ps55) → Option (rs55).den) (F56 : (SV.denL ps56) → Option (rs56).den) (F57 : (SV.denL ps57) → Option (rs57).den) (F58 : (SV.denL ps58) → Option (rs58).den) : (SV.denL ps19) → Option (rs19).den := runFn tb [(42, mkCall ps42 rs42 F42), (55, mkCall ps55 rs55 F55), (56, mkCall ps56 rs56 F56), (57, mkCall ps57 rs57 F57), (58, mkCall ps58 rs58 F58)] [] Tryz.f19 ps19 rs19
theorem call19 {F42 : (SV.denL ps42) → Option (rs42).den} {F55 : (SV.denL ps55) → Option (rs55).den} {F56 : (SV.denL ps56) → Option (rs56).den} {F57 : (SV.denL ps57) → Option (rs57).den} {F58 : (SV.denL ps58) → Option (rs58).den} (h42 : CallOK Tryz.prog 42 (mkCall ps42 rs42 F42)) (h55 : CallOK Tryz.prog 55 (mkCall ps55 rs55 F55)) (h56 : CallOK Tryz.prog 56 (mkCall ps56 rs56 F56)) (h57 : CallOK Tryz.prog 57 (mkCall ps57 rs57 F57)) (h58 : CallOK Tryz.prog 58 (mkCall ps58 rs58 F58)) : CallOK Tryz.prog 19 (mkCall ps19 rs19 (F19 F42 F55 F56 F57 F58)) :=
  runFn_ok mixed tabOK (Δ := [(42, mkCall ps42 rs42 F42), (55, mkCall ps55 rs55 F55), (56, mkCall ps56 rs56 F56), (57, mkCall ps57 rs57 F57), (58, mkCall ps58 rs58 F58)]) ⟨.inl h42, .inl h55, .inl h56, .inl h57, .inl h58, trivial⟩ ⟨Tryz.func19, rfl, by kernel_rfl, by kernel_rfl, by kernel_rfl, by kernel_rfl⟩ rfl (loopsAt_zip (Λ := []) (cs := []) (by kernel_rfl) (by kernel_rfl) (by kernel_rfl) trivial)
/-! 21 bowline/wide.Wrap -/
abbrev ps21 : List SV := [.d false tS, .d false tS]
abbrev rs21 : Shape := ⟨[(0, .d false (.int .u64)), (1, .d false tI)], []⟩
noncomputable def F21 (F47 : (SV.denL ps47) → Option (rs47).den) (F50 : (SV.denL ps50) → Option (rs50).den) : (SV.denL ps21) → Option (rs21).den := runFn tb [(47, mkCall ps47 rs47 F47), (50, mkCall ps50 rs50 F50)] [] Tryz.f21 ps21 rs21
theorem call21 {F47 : (SV.denL ps47) → Option (rs47).den} {F50 : (SV.denL ps50) → Option (rs50).den} (h47 : CallOK Tryz.prog 47 (mkCall ps47 rs47 F47)) (h50 : CallOK Tryz.prog 50 (mkCall ps50 rs50 F50)) : CallOK Tryz.prog 21 (mkCall ps21 rs21 (F21 F47 F50)) :=
  runFn_ok mixed tabOK (Δ := [(47, mkCall ps47 rs47 F47), (50, mkCall ps50 rs50 F50)]) ⟨.inl h47, .inl h50, trivial⟩ ⟨Tryz.func21, rfl, by kernel_rfl, by kernel_rfl, by kernel_rfl, by kernel_rfl⟩ rfl (loopsAt_zip (Λ := []) (cs := []) (by kernel_rfl) (by kernel_rfl) (by kernel_rfl) trivial)
/-! 23 bowline/wide.Saturate -/
abbrev ps23 : List SV := [.d false tS, .d false tS]
abbrev rs23 : Shape := ⟨[(0, .d false (.int .u64)), (1, .d false tI)], []⟩
noncomputable def F23 (F47 : (SV.denL ps47) → Option (rs47).den) (F48 : (SV.denL ps48) → Option (rs48).den) (F50 : (SV.denL ps50) → Option (rs50).den) : (SV.denL ps23) → Option (rs23).den := runFn tb [(47, mkCall ps47 rs47 F47), (48, mkCall ps48 rs48 F48), (50, mkCall ps50 rs50 F50)] [] Tryz.f23 ps23 rs23
theorem call23 {F47 : (SV.denL ps47) → Option (rs47).den} {F48 : (SV.denL ps48) → Option (rs48).den} {F50 : (SV.denL ps50) → Option (rs50).den} (h47 : CallOK Tryz.prog 47 (mkCall ps47 rs47 F47)) (h48 : CallOK Tryz.prog 48 (mkCall ps48 rs48 F48)) (h50 : CallOK Tryz.prog 50 (mkCall ps50 rs50 F50)) : CallOK Tryz.prog 23 (mkCall ps23 rs23 (F23 F47 F48 F50)) :=
  runFn_ok mixed tabOK (Δ := [(47, mkCall ps47 rs47 F47), (48, mkCall ps48 rs48 F48), (50, mkCall ps50 rs50 F50)]) ⟨.inl h47, .inl h48, .inl h50, trivial⟩ ⟨Tryz.func23, rfl, by kernel_rfl, by kernel_rfl, by kernel_rfl, by kernel_rfl⟩ rfl (loopsAt_zip (Λ := []) (cs := []) (by kernel_rfl) (by kernel_rfl) (by kernel_rfl) trivial)
/-! 200 bowline/wide.decimal -/
abbrev ps200 : List SV := [.d false (.int .i32)]
abbrev rs200 : Shape := ⟨[(0, .d false tI)], []⟩
noncomputable def F200 : (SV.denL ps200) → Option (rs200).den := runFn tb [] [] Tryz.f200 ps200 rs200
theorem call200 : CallOK Tryz.prog 200 (mkCall ps200 rs200 (F200)) :=
  runFn_ok mixed tabOK (Δ := []) trivial ⟨Tryz.func200, rfl, by kernel_rfl, by kernel_rfl, by kernel_rfl, by kernel_rfl⟩ rfl (loopsAt_zip (Λ := []) (cs := []) (by kernel_rfl) (by kernel_rfl) (by kernel_rfl) trivial)
/-! 199 bowline/wide.hexadecimal -/
abbrev ps199 : List SV := [.d false (.int .i32)]
abbrev rs199 : Shape := ⟨[(0, .d false tI)], []⟩
noncomputable def F199 (F200 : (SV.denL ps200) → Option (rs200).den) : (SV.denL ps199) → Option (rs199).den := runFn tb [(200, mkCall ps200 rs200 F200)] [] Tryz.f199 ps199 rs199
theorem call199 {F200 : (SV.denL ps200) → Option (rs200).den} (h200 : CallOK Tryz.prog 200 (mkCall ps200 rs200 F200)) : CallOK Tryz.prog 199 (mkCall ps199 rs199 (F199 F200)) :=
  runFn_ok mixed tabOK (Δ := [(200, mkCall ps200 rs200 F200)]) ⟨.inl h200, trivial⟩ ⟨Tryz.func199, rfl, by kernel_rfl, by kernel_rfl, by kernel_rfl, by kernel_rfl⟩ rfl (loopsAt_zip (Λ := []) (cs := []) (by kernel_rfl) (by kernel_rfl) (by kernel_rfl) trivial)
/-! 64 (bowline/wide.radix).digits -/
abbrev ps64 : List SV := [.d true (.pr tS (.pr tU .fv)), .d false tS]
abbrev rs64 : Shape := ⟨[(0, .d false tN), (1, .d false .bool)], []⟩
abbrev sh64_4 : Shape := ⟨[(1, .d false tS), (2, .pt 0 0), (6, .rf 1), (7, .d false (.int .i32)), (12, .pt 2 0)], [.box 105 [.d false tS, .d false tU, .d false .fv], .row tU 102, .it]⟩
abbrev w64_4 : List Way := [(none, ⟨[(4, .d false tN), (5, .d false .bool)], []⟩), (some 0, ⟨[(1, .d false tS), (2, .pt 0 0), (6, .rf 1), (7, .d false (.int .i32))], [.box 105 [.d false tS, .d false tU, .d false .fv], .row tU 102]⟩)]
noncomputable def S64_4 (F199 : (SV.denL ps199) → Option (rs199).den) (F200 : (SV.denL ps200) → Option (rs200).den) : sh64_4.den → Option (sh64_4.den ⊕ denX w64_4) := stepFn tb [(199, mkCall ps199 rs199 F199), (200, mkCall ps200 rs200 F200)] [] (upTo 60) Tryz.f64 4 sh64_4 w64_4
noncomputable def F64 (g64_4 : sh64_4.den → Option (denX w64_4)) : (SV.denL ps64) → Option (rs64).den := runFn tb [] [(4, lp sh64_4 w64_4 g64_4)] Tryz.f64 ps64 rs64
theorem call64 {F199 : (SV.denL ps199) → Option (rs199).den} {F200 : (SV.denL ps200) → Option (rs200).den} {g64_4 : sh64_4.den → Option (denX w64_4)} (h199 : CallOK Tryz.prog 199 (mkCall ps199 rs199 F199)) (h200 : CallOK Tryz.prog 200 (mkCall ps200 rs200 F200)) (hg64_4 : Lim (S64_4 F199 F200) g64_4) : CallOK Tryz.prog 64 (mkCall ps64 rs64 (F64 g64_4)) :=
  runFn_ok mixed tabOK (Δ := []) trivial ⟨Tryz.func64, rfl, by kernel_rfl, by kernel_rfl, by kernel_rfl, by kernel_rfl⟩ rfl (loopsAt_zip (cs := [.loop (loopOf Tryz.f64 4)]) (by kernel_rfl) (by kernel_rfl) (by kernel_rfl) ⟨stepLim_ok mixed tabOK (Δ := [(199, mkCall ps199 rs199 F199), (200, mkCall ps200 rs200 F200)]) ⟨.inl h199, .inl h200, trivial⟩ hg64_4 (loopsAt_zip (Λ := []) (cs := []) (by kernel_rfl) (by kernel_rfl) (by kernel_rfl) trivial), trivial⟩)
/-! 103 (bowline/wide.exact).written$1 -/
abbrev ps103 : List SV := [.d false tU]
abbrev rs103 : Shape := ⟨[(0, .d false tS)], []⟩
noncomputable def F103 (F104 : (SV.denL ps104) → Option (rs104).den) (F105 : (SV.denL ps105) → Option (rs105).den) : (SV.denL ps103) → Option (rs103).den := runFn tb [(104, mkCall ps104 rs104 F104), (105, mkCall ps105 rs105 F105)] [] Tryz.f103 ps103 rs103
theorem call103 {F104 : (SV.denL ps104) → Option (rs104).den} {F105 : (SV.denL ps105) → Option (rs105).den} (h104 : CallOK Tryz.prog 104 (mkCall ps104 rs104 F104)) (h105 : CallOK Tryz.prog 105 (mkCall ps105 rs105 F105)) : CallOK Tryz.prog 103 (mkCall ps103 rs103 (F103 F104 F105)) :=
  runFn_ok mixed tabOK (Δ := [(104, mkCall ps104 rs104 F104), (105, mkCall ps105 rs105 F105)]) ⟨.inl h104, .inl h105, trivial⟩ ⟨Tryz.func103, rfl, by kernel_rfl, by kernel_rfl, by kernel_rfl, by kernel_rfl⟩ rfl (loopsAt_zip (Λ := []) (cs := []) (by kernel_rfl) (by kernel_rfl) (by kernel_rfl) trivial)
/-! 102 bowline/wide.mapped[uint32,string] -/
abbrev ps102 : List SV := [.d false tN, .d false .fv]
abbrev rs102 : Shape := ⟨[(0, .rf 0)], [.row tS 9]⟩
abbrev sh102_3 : Shape := ⟨[(0, .d false tN), (1, .d false .fv), (5, .rf 0), (11, .d false tI), (12, .d false tI)], [.row tS 9]⟩
abbrev w102_3 : List Way := [(some 0, ⟨[(5, .rf 0)], [.row tS 9]⟩)]
noncomputable def S102_3 (F103 : (SV.denL ps103) → Option (rs103).den) : sh102_3.den → Option (sh102_3.den ⊕ denX w102_3) := stepFn tb [(103, mkCall ps103 rs103 F103)] [] (upTo 26) Tryz.f102 3 sh102_3 w102_3
noncomputable def F102 (g102_3 : sh102_3.den → Option (denX w102_3)) : (SV.denL ps102) → Option (rs102).den := runFn tb [] [(3, lp sh102_3 w102_3 g102_3)] Tryz.f102 ps102 rs102
theorem call102 {F103 : (SV.denL ps103) → Option (rs103).den} {g102_3 : sh102_3.den → Option (denX w102_3)} (h103 : CallOK Tryz.prog 103 (mkCall ps103 rs103 F103)) (hg102_3 : Lim (S102_3 F103) g102_3) : CallOK Tryz.prog 102 (mkCall ps102 rs102 (F102 g102_3)) :=
  runFn_ok mixed tabOK (Δ := []) trivial ⟨Tryz.func102, rfl, by kernel_rfl, by kernel_rfl, by kernel_rfl, by kernel_rfl⟩ rfl (loopsAt_zip (cs := [.loop (loopOf Tryz.f102 3)]) (by kernel_rfl) (by kernel_rfl) (by kernel_rfl) ⟨stepLim_ok mixed tabOK (Δ := [(103, mkCall ps103 rs103 F103)]) ⟨.inl h103, trivial⟩ hg102_3 (loopsAt_zip (Λ := []) (cs := []) (by kernel_rfl) (by kernel_rfl) (by kernel_rfl) trivial), trivial⟩)
/-! 106 slices.Reverse[[]string,string] -/
abbrev psh106 : Shape := ⟨[(0, .rf 0)], [.row tS 9]⟩
abbrev m106 : List Nat := [0]
abbrev rs106 : Shape := ⟨[(0, .rf 0)], [.row tS 9]⟩
abbrev sh106_1 : Shape := ⟨[(0, .rf 0), (2, .d false tI), (3, .d false tI)], [.row tS 9]⟩
abbrev w106_1 : List Way := [(some 0, ⟨[(0, .rf 0)], [.row tS 9]⟩)]
noncomputable def S106_1 : sh106_1.den → Option (sh106_1.den ⊕ denX w106_1) := stepFn tb [] [] (roundOk (upTo 28) (rangeN 0 1)) Tryz.f106 1 sh106_1 w106_1
noncomputable def F106 (g106_1 : sh106_1.den → Option (denX w106_1)) : (psh106.den) → Option (rs106).den := runFnB tb [] [(1, lp sh106_1 w106_1 g106_1)] Tryz.f106 psh106 rs106 1
theorem call106 {g106_1 : sh106_1.den → Option (denX w106_1)} (hg106_1 : Lim (S106_1) g106_1) : CallOK Tryz.prog 106 (mkCallB psh106 rs106 m106 1 (F106 g106_1)) :=
  runFnB_ok mixed tabOK (Δ := []) trivial ⟨Tryz.func106, rfl, by kernel_rfl, by kernel_rfl, by kernel_rfl, by kernel_rfl, by kernel_rfl, by kernel_rfl, by kernel_rfl, by kernel_rfl, by kernel_rfl⟩ rfl (loopsAt_zip (cs := [.loop (loopOf Tryz.f106 1)]) (by kernel_rfl) (by kernel_rfl) (by kernel_rfl) ⟨stepLim_ok mixed tabOK (Δ := []) trivial hg106_1 (loopsAt_zip (Λ := []) (cs := []) (by kernel_rfl) (by kernel_rfl) (by kernel_rfl) trivial), trivial⟩)
/-! 136 strings.trimLeftByte -/
abbrev ps136 : List SV := [.d false tS, .d false (.int .u8)]
abbrev rs136 : Shape := ⟨[(0, .d false tS)], []⟩
abbrev sh136_1 : Shape := ⟨[(0, .d false tS), (1, .d false (.int .u8))], []⟩
abbrev w136_1 : List Way := [(some 0, ⟨[(0, .d false tS)], []⟩)]
noncomputable def S136_1 : sh136_1.den → Option (sh136_1.den ⊕ denX w136_1) := stepFn tb [] [] (upTo 17) Tryz.f136 1 sh136_1 w136_1
noncomputable def F136 (g136_1 : sh136_1.den → Option (denX w136_1)) : (SV.denL ps136) → Option (rs136).den := runFn tb [] [(1, lp sh136_1 w136_1 g136_1)] Tryz.f136 ps136 rs136
theorem call136 {g136_1 : sh136_1.den → Option (denX w136_1)} (hg136_1 : Lim (S136_1) g136_1) : CallOK Tryz.prog 136 (mkCall ps136 rs136 (F136 g136_1)) :=
  runFn_ok mixed tabOK (Δ := []) trivial ⟨Tryz.func136, rfl, by kernel_rfl, by kernel_rfl, by kernel_rfl, by kernel_rfl⟩ rfl (loopsAt_zip (cs := [.loop (loopOf Tryz.f136 1)]) (by kernel_rfl) (by kernel_rfl) (by kernel_rfl) ⟨stepLim_ok mixed tabOK (Δ := []) trivial hg136_1 (loopsAt_zip (Λ := []) (cs := []) (by kernel_rfl) (by kernel_rfl) (by kernel_rfl) trivial), trivial⟩)
/-! 107 strings.TrimLeft -/
abbrev ps107 : List SV := [.d false tS, .d false tS]
abbrev rs107 : Shape := ⟨[(0, .d false tS)], []⟩
noncomputable def F107 (F136 : (SV.denL ps136) → Option (rs136).den) : (SV.denL ps107) → Option (rs107).den := runFn tb [(136, mkCall ps136 rs136 F136)] [] Tryz.f107 ps107 rs107
theorem call107 {F136 : (SV.denL ps136) → Option (rs136).den} (h136 : CallOK Tryz.prog 136 (mkCall ps136 rs136 F136)) : CallOK Tryz.prog 107 (mkCall ps107 rs107 (F107 F136)) :=
  runFn_ok mixed tabOK (Δ := [(136, mkCall ps136 rs136 F136)]) ⟨.inl h136, trivial⟩ ⟨Tryz.func107, rfl, by kernel_rfl, by kernel_rfl, by kernel_rfl, by kernel_rfl⟩ rfl (loopsAt_zip (Λ := []) (cs := []) (by kernel_rfl) (by kernel_rfl) (by kernel_rfl) trivial)
/-! 66 (bowline/wide.exact).written -/
abbrev ps66 : List SV := [.d true tZ]
abbrev rs66 : Shape := ⟨[(0, .d false tS), (1, .d false tI)], []⟩
noncomputable def F66 (F102 : (SV.denL ps102) → Option (rs102).den) (F106 : (psh106.den) → Option (rs106).den) (F107 : (SV.denL ps107) → Option (rs107).den) (F108 : (SV.denL ps108) → Option (rs108).den) : (SV.denL ps66) → Option (rs66).den := runFn tb [(102, mkCall ps102 rs102 F102), (106, mkCallB psh106 rs106 m106 1 F106), (107, mkCall ps107 rs107 F107), (108, mkCall ps108 rs108 F108)] [] Tryz.f66 ps66 rs66
theorem call66 {F102 : (SV.denL ps102) → Option (rs102).den} {F106 : (psh106.den) → Option (rs106).den} {F107 : (SV.denL ps107) → Option (rs107).den} {F108 : (SV.denL ps108) → Option (rs108).den} (h102 : CallOK Tryz.prog 102 (mkCall ps102 rs102 F102)) (h106 : CallOK Tryz.prog 106 (mkCallB psh106 rs106 m106 1 F106)) (h107 : CallOK Tryz.prog 107 (mkCall ps107 rs107 F107)) (h108 : CallOK Tryz.prog 108 (mkCall ps108 rs108 F108)) : CallOK Tryz.prog 66 (mkCall ps66 rs66 (F66 F102 F106 F107 F108)) :=
  runFn_ok mixed tabOK (Δ := [(102, mkCall ps102 rs102 F102), (106, mkCallB psh106 rs106 m106 1 F106), (107, mkCall ps107 rs107 F107), (108, mkCall ps108 rs108 F108)]) ⟨.inl h102, .inl h106, .inl h107, .inl h108, trivial⟩ ⟨Tryz.func66, rfl, by kernel_rfl, by kernel_rfl, by kernel_rfl, by kernel_rfl⟩ rfl (loopsAt_zip (Λ := []) (cs := []) (by kernel_rfl) (by kernel_rfl) (by kernel_rfl) trivial)
/-! 63 strings.HasPrefix -/
abbrev ps63 : List SV := [.d false tS, .d false tS]
abbrev rs63 : Shape := ⟨[(0, .d false .bool)], []⟩
noncomputable def F63 (F100 : (SV.denL ps100) → Option (rs100).den) : (SV.denL ps63) → Option (rs63).den := runFn tb [(100, mkCall ps100 rs100 F100)] [] Tryz.f63 ps63 rs63
theorem call63 {F100 : (SV.denL ps100) → Option (rs100).den} (h100 : CallOK Tryz.prog 100 (mkCall ps100 rs100 F100)) : CallOK Tryz.prog 63 (mkCall ps63 rs63 (F63 F100)) :=
  runFn_ok mixed tabOK (Δ := [(100, mkCall ps100 rs100 F100)]) ⟨.inl h100, trivial⟩ ⟨Tryz.func63, rfl, by kernel_rfl, by kernel_rfl, by kernel_rfl, by kernel_rfl⟩ rfl (loopsAt_zip (Λ := []) (cs := []) (by kernel_rfl) (by kernel_rfl) (by kernel_rfl) trivial)
/-! 65 bowline/wide.scaled -/
abbrev ps65 : List SV := [.d false tN, .d false tU, .d false tU]
abbrev rs65 : Shape := ⟨[(0, .d false tN)], []⟩
abbrev sh65_4 : Shape := ⟨[(1, .d false tU), (7, .rf 0), (8, .d false (.int .u64)), (19, .d false tN), (20, .d false tI), (21, .d false tI)], [.row tU 102]⟩
abbrev w65_4 : List Way := [(some 0, ⟨[(7, .rf 0), (8, .d false (.int .u64))], [.row tU 102]⟩)]
noncomputable def S65_4 : sh65_4.den → Option (sh65_4.den ⊕ denX w65_4) := stepFn tb [] [] (upTo 48) Tryz.f65 4 sh65_4 w65_4
noncomputable def F65 (F101 : (SV.denL ps101) → Option (rs101).den) (g65_4 : sh65_4.den → Option (denX w65_4)) : (SV.denL ps65) → Option (rs65).den := runFn tb [(101, mkCall ps101 rs101 F101)] [(4, lp sh65_4 w65_4 g65_4)] Tryz.f65 ps65 rs65
theorem call65 {F101 : (SV.denL ps101) → Option (rs101).den} {g65_4 : sh65_4.den → Option (denX w65_4)} (h101 : CallOK Tryz.prog 101 (mkCall ps101 rs101 F101)) (hg65_4 : Lim (S65_4) g65_4) : CallOK Tryz.prog 65 (mkCall ps65 rs65 (F65 F101 g65_4)) :=
  runFn_ok mixed tabOK (Δ := [(101, mkCall ps101 rs101 F101)]) ⟨.inl h101, trivial⟩ ⟨Tryz.func65, rfl, by kernel_rfl, by kernel_rfl, by kernel_rfl, by kernel_rfl⟩ rfl (loopsAt_zip (cs := [.loop (loopOf Tryz.f65 4)]) (by kernel_rfl) (by kernel_rfl) (by kernel_rfl) ⟨stepLim_ok mixed tabOK (Δ := []) trivial hg65_4 (loopsAt_zip (Λ := []) (cs := []) (by kernel_rfl) (by kernel_rfl) (by kernel_rfl) trivial), trivial⟩)
/-! 25 bowline/wide.Literal -/
abbrev ps25 : List SV := [.d false tS]
abbrev rs25 : Shape := ⟨[(0, .d false tS), (1, .d false tI)], []⟩
abbrev sh25_5 : Shape := ⟨[(0, .d false tS), (4, .pt 0 0), (16, .d true (.pr (.pr tS (.pr tU .fv)) (.pr (.pr tS (.pr tU .fv)) (.pr (.pr tS (.pr tU .fv)) (.pr tS (.pr tU .fv)))))), (17, .d false tI)], [.box 105 [.d false tS, .d false tU, .d false .fv]]⟩
abbrev w25_5 : List Way := [(some 0, ⟨[(0, .d false tS), (4, .pt 0 0)], [.box 105 [.d false tS, .d false tU, .d false .fv]]⟩)]
abbrev sh25_15 : Shape := ⟨[(4, .pt 0 0), (9, .pt 1 0), (38, .d false tN), (39, .d false tI), (40, .d false tI)], [.box 105 [.d false tS, .d false tU, .d false .fv], .box 85 [.d false .bool, .d false tN]]⟩
abbrev w25_15 : List Way := [(some 2, ⟨[(9, .pt 0 0)], [.box 85 [.d false .bool, .d false tN]]⟩)]
noncomputable def S25_5 (F63 : (SV.denL ps63) → Option (rs63).den) : sh25_5.den → Option (sh25_5.den ⊕ denX w25_5) := stepFn tb [(63, mkCall ps63 rs63 F63)] [] (upTo 56) Tryz.f25 5 sh25_5 w25_5
noncomputable def S25_15 (F65 : (SV.denL ps65) → Option (rs65).den) : sh25_15.den → Option (sh25_15.den ⊕ denX w25_15) := stepFn tb [(65, mkCall ps65 rs65 F65)] [] (upTo 56) Tryz.f25 15 sh25_15 w25_15
noncomputable def F25 (F64 : (SV.denL ps64) → Option (rs64).den) (F66 : (SV.denL ps66) → Option (rs66).den) (g25_5 : sh25_5.den → Option (denX w25_5)) (g25_15 : sh25_15.den → Option (denX w25_15)) : (SV.denL ps25) → Option (rs25).den := runFn tb [(64, mkCall ps64 rs64 F64), (66, mkCall ps66 rs66 F66)] [(5, lp sh25_5 w25_5 g25_5), (15, lp sh25_15 w25_15 g25_15)] Tryz.f25 ps25 rs25
theorem call25 {F63 : (SV.denL ps63) → Option (rs63).den} {F64 : (SV.denL ps64) → Option (rs64).den} {F65 : (SV.denL ps65) → Option (rs65).den} {F66 : (SV.denL ps66) → Option (rs66).den} {g25_5 : sh25_5.den → Option (denX w25_5)} {g25_15 : sh25_15.den → Option (denX w25_15)} (h63 : CallOK Tryz.prog 63 (mkCall ps63 rs63 F63)) (h64 : CallOK Tryz.prog 64 (mkCall ps64 rs64 F64)) (h65 : CallOK Tryz.prog 65 (mkCall ps65 rs65 F65)) (h66 : CallOK Tryz.prog 66 (mkCall ps66 rs66 F66)) (hg25_5 : Lim (S25_5 F63) g25_5) (hg25_15 : Lim (S25_15 F65) g25_15) : CallOK Tryz.prog 25 (mkCall ps25 rs25 (F25 F64 F66 g25_5 g25_15)) :=
  runFn_ok mixed tabOK (Δ := [(64, mkCall ps64 rs64 F64), (66, mkCall ps66 rs66 F66)]) ⟨.inl h64, .inl h66, trivial⟩ ⟨Tryz.func25, rfl, by kernel_rfl, by kernel_rfl, by kernel_rfl, by kernel_rfl⟩ rfl (loopsAt_zip (cs := [.loop (loopOf Tryz.f25 5), .loop (loopOf Tryz.f25 15)]) (by kernel_rfl) (by kernel_rfl) (by kernel_rfl) ⟨stepLim_ok mixed tabOK (Δ := [(63, mkCall ps63 rs63 F63)]) ⟨.inl h63, trivial⟩ hg25_5 (loopsAt_zip (Λ := []) (cs := []) (by kernel_rfl) (by kernel_rfl) (by kernel_rfl) trivial), stepLim_ok mixed tabOK (Δ := [(65, mkCall ps65 rs65 F65)]) ⟨.inl h65, trivial⟩ hg25_15 (loopsAt_zip (Λ := []) (cs := []) (by kernel_rfl) (by kernel_rfl) (by kernel_rfl) trivial), trivial⟩)
/-! 141 bowline/wide.limb -/
abbrev ps141 : List SV := [.d false tN, .d false tI]
abbrev rs141 : Shape := ⟨[(0, .d false (.int .u64))], []⟩
noncomputable def F141 : (SV.denL ps141) → Option (rs141).den := runFn tb [] [] Tryz.f141 ps141 rs141
theorem call141 : CallOK Tryz.prog 141 (mkCall ps141 rs141 (F141)) :=
  runFn_ok mixed tabOK (Δ := []) trivial ⟨Tryz.func141, rfl, by kernel_rfl, by kernel_rfl, by kernel_rfl, by kernel_rfl⟩ rfl (loopsAt_zip (Λ := []) (cs := []) (by kernel_rfl) (by kernel_rfl) (by kernel_rfl) trivial)
/-! 114 bowline/wide.sum -/
abbrev ps114 : List SV := [.d false tN, .d false tN]
abbrev rs114 : Shape := ⟨[(0, .d false tN)], []⟩
abbrev sh114_4 : Shape := ⟨[(0, .d false tN), (1, .d false tN), (5, .rf 0), (6, .d false (.int .u64)), (13, .d false tI), (14, .d false tI)], [.row tU 102]⟩
abbrev w114_4 : List Way := [(some 0, ⟨[(5, .rf 0)], [.row tU 102]⟩)]
noncomputable def S114_4 (F141 : (SV.denL ps141) → Option (rs141).den) : sh114_4.den → Option (sh114_4.den ⊕ denX w114_4) := stepFn tb [(141, mkCall ps141 rs141 F141)] [] (upTo 37) Tryz.f114 4 sh114_4 w114_4
noncomputable def F114 (F101 : (SV.denL ps101) → Option (rs101).den) (g114_4 : sh114_4.den → Option (denX w114_4)) : (SV.denL ps114) → Option (rs114).den := runFn tb [(101, mkCall ps101 rs101 F101)] [(4, lp sh114_4 w114_4 g114_4)] Tryz.f114 ps114 rs114
theorem call114 {F101 : (SV.denL ps101) → Option (rs101).den} {F141 : (SV.denL ps141) → Option (rs141).den} {g114_4 : sh114_4.den → Option (denX w114_4)} (h101 : CallOK Tryz.prog 101 (mkCall ps101 rs101 F101)) (h141 : CallOK Tryz.prog 141 (mkCall ps141 rs141 F141)) (hg114_4 : Lim (S114_4 F141) g114_4) : CallOK Tryz.prog 114 (mkCall ps114 rs114 (F114 F101 g114_4)) :=
  runFn_ok mixed tabOK (Δ := [(101, mkCall ps101 rs101 F101)]) ⟨.inl h101, trivial⟩ ⟨Tryz.func114, rfl, by kernel_rfl, by kernel_rfl, by kernel_rfl, by kernel_rfl⟩ rfl (loopsAt_zip (cs := [.loop (loopOf Tryz.f114 4)]) (by kernel_rfl) (by kernel_rfl) (by kernel_rfl) ⟨stepLim_ok mixed tabOK (Δ := [(141, mkCall ps141 rs141 F141)]) ⟨.inl h141, trivial⟩ hg114_4 (loopsAt_zip (Λ := []) (cs := []) (by kernel_rfl) (by kernel_rfl) (by kernel_rfl) trivial), trivial⟩)
/-! 116 bowline/wide.difference -/
abbrev ps116 : List SV := [.d false tN, .d false tN]
abbrev rs116 : Shape := ⟨[(0, .d false tN)], []⟩
abbrev sh116_5 : Shape := ⟨[(0, .d false tN), (1, .d false tN), (5, .rf 0), (6, .d false (.int .u64)), (16, .d false tI), (17, .d false tI)], [.row tU 102]⟩
abbrev w116_5 : List Way := [(some 0, ⟨[(5, .rf 0)], [.row tU 102]⟩)]
noncomputable def S116_5 (F141 : (SV.denL ps141) → Option (rs141).den) : sh116_5.den → Option (sh116_5.den ⊕ denX w116_5) := stepFn tb [(141, mkCall ps141 rs141 F141)] [] (upTo 42) Tryz.f116 5 sh116_5 w116_5
noncomputable def F116 (F101 : (SV.denL ps101) → Option (rs101).den) (g116_5 : sh116_5.den → Option (denX w116_5)) : (SV.denL ps116) → Option (rs116).den := runFn tb [(101, mkCall ps101 rs101 F101)] [(5, lp sh116_5 w116_5 g116_5)] Tryz.f116 ps116 rs116
theorem call116 {F101 : (SV.denL ps101) → Option (rs101).den} {F141 : (SV.denL ps141) → Option (rs141).den} {g116_5 : sh116_5.den → Option (denX w116_5)} (h101 : CallOK Tryz.prog 101 (mkCall ps101 rs101 F101)) (h141 : CallOK Tryz.prog 141 (mkCall ps141 rs141 F141)) (hg116_5 : Lim (S116_5 F141) g116_5) : CallOK Tryz.prog 116 (mkCall ps116 rs116 (F116 F101 g116_5)) :=
  runFn_ok mixed tabOK (Δ := [(101, mkCall ps101 rs101 F101)]) ⟨.inl h101, trivial⟩ ⟨Tryz.func116, rfl, by kernel_rfl, by kernel_rfl, by kernel_rfl, by kernel_rfl⟩ rfl (loopsAt_zip (cs := [.loop (loopOf Tryz.f116 5)]) (by kernel_rfl) (by kernel_rfl) (by kernel_rfl) ⟨stepLim_ok mixed tabOK (Δ := [(141, mkCall ps141 rs141 F141)]) ⟨.inl h141, trivial⟩ hg116_5 (loopsAt_zip (Λ := []) (cs := []) (by kernel_rfl) (by kernel_rfl) (by kernel_rfl) trivial), trivial⟩)
/-! 74 (bowline/wide.exact).plus -/
abbrev ps74 : List SV := [.d true tZ, .d true tZ]
abbrev rs74 : Shape := ⟨[(0, .d true tZ)], []⟩
noncomputable def F74 (F94 : (SV.denL ps94) → Option (rs94).den) (F114 : (SV.denL ps114) → Option (rs114).den) (F115 : (SV.denL ps115) → Option (rs115).den) (F116 : (SV.denL ps116) → Option (rs116).den) : (SV.denL ps74) → Option (rs74).den := runFn tb [(94, mkCall ps94 rs94 F94), (114, mkCall ps114 rs114 F114), (115, mkCall ps115 rs115 F115), (116, mkCall ps116 rs116 F116)] [] Tryz.f74 ps74 rs74
theorem call74 {F114 : (SV.denL ps114) → Option (rs114).den} {F115 : (SV.denL ps115) → Option (rs115).den} {F116 : (SV.denL ps116) → Option (rs116).den} {F94 : (SV.denL ps94) → Option (rs94).den} (h114 : CallOK Tryz.prog 114 (mkCall ps114 rs114 F114)) (h115 : CallOK Tryz.prog 115 (mkCall ps115 rs115 F115)) (h116 : CallOK Tryz.prog 116 (mkCall ps116 rs116 F116)) (h94 : CallOK Tryz.prog 94 (mkCall ps94 rs94 F94)) : CallOK Tryz.prog 74 (mkCall ps74 rs74 (F74 F94 F114 F115 F116)) :=
  runFn_ok mixed tabOK (Δ := [(94, mkCall ps94 rs94 F94), (114, mkCall ps114 rs114 F114), (115, mkCall ps115 rs115 F115), (116, mkCall ps116 rs116 F116)]) ⟨.inl h94, .inl h114, .inl h115, .inl h116, trivial⟩ ⟨Tryz.func74, rfl, by kernel_rfl, by kernel_rfl, by kernel_rfl, by kernel_rfl⟩ rfl (loopsAt_zip (Λ := []) (cs := []) (by kernel_rfl) (by kernel_rfl) (by kernel_rfl) trivial)
/-! 76 (bowline/wide.exact).negated -/
abbrev ps76 : List SV := [.d true tZ]
abbrev rs76 : Shape := ⟨[(0, .d true tZ)], []⟩
noncomputable def F76 (F115 : (SV.denL ps115) → Option (rs115).den) : (SV.denL ps76) → Option (rs76).den := runFn tb [(115, mkCall ps115 rs115 F115)] [] Tryz.f76 ps76 rs76
theorem call76 {F115 : (SV.denL ps115) → Option (rs115).den} (h115 : CallOK Tryz.prog 115 (mkCall ps115 rs115 F115)) : CallOK Tryz.prog 76 (mkCall ps76 rs76 (F76 F115)) :=
  runFn_ok mixed tabOK (Δ := [(115, mkCall ps115 rs115 F115)]) ⟨.inl h115, trivial⟩ ⟨Tryz.func76, rfl, by kernel_rfl, by kernel_rfl, by kernel_rfl, by kernel_rfl⟩ rfl (loopsAt_zip (Λ := []) (cs := []) (by kernel_rfl) (by kernel_rfl) (by kernel_rfl) trivial)
/-! 75 bowline/wide.Sub$1 -/
abbrev ps75 : List SV := [.d true tZ, .d true tZ]
abbrev rs75 : Shape := ⟨[(0, .d true tZ)], []⟩
noncomputable def F75 (F74 : (SV.denL ps74) → Option (rs74).den) (F76 : (SV.denL ps76) → Option (rs76).den) : (SV.denL ps75) → Option (rs75).den := runFn tb [(74, mkCall ps74 rs74 F74), (76, mkCall ps76 rs76 F76)] [] Tryz.f75 ps75 rs75
theorem call75 {F74 : (SV.denL ps74) → Option (rs74).den} {F76 : (SV.denL ps76) → Option (rs76).den} (h74 : CallOK Tryz.prog 74 (mkCall ps74 rs74 F74)) (h76 : CallOK Tryz.prog 76 (mkCall ps76 rs76 F76)) : CallOK Tryz.prog 75 (mkCall ps75 rs75 (F75 F74 F76)) :=
  runFn_ok mixed tabOK (Δ := [(74, mkCall ps74 rs74 F74), (76, mkCall ps76 rs76 F76)]) ⟨.inl h74, .inl h76, trivial⟩ ⟨Tryz.func75, rfl, by kernel_rfl, by kernel_rfl, by kernel_rfl, by kernel_rfl⟩ rfl (loopsAt_zip (Λ := []) (cs := []) (by kernel_rfl) (by kernel_rfl) (by kernel_rfl) trivial)
/-! 77 (bowline/wide.exact).times -/
abbrev ps77 : List SV := [.d true tZ, .d true tZ]
abbrev rs77 : Shape := ⟨[(0, .d true tZ)], []⟩
abbrev sh77_3 : Shape := ⟨[(2, .pt 0 0), (3, .pt 1 0), (4, .pt 2 0), (5, .pt 3 0)], [.box 85 [.d false .bool, .d false tN], .box 85 [.d false .bool, .d false tN], .box 85 [.d false .bool, .d false tN], .box 83 [.d false tN]]⟩
abbrev w77_3 : List Way := []
noncomputable def S77_3 (F65 : (SV.denL ps65) → Option (rs65).den) (F114 : (SV.denL ps114) → Option (rs114).den) : El125 → sh77_3.den → Option (sh77_3.den ⊕ denX w77_3) := roundFn tb [(65, mkCall ps65 rs65 F65), (114, mkCall ps114 rs114 F114)] [] (upTo 33) Tryz.f77 3 avs125 [(7, 12)] sh77_3 w77_3
noncomputable def F77 (F95 : (SV.denL ps95) → Option (rs95).den) (F115 : (SV.denL ps115) → Option (rs115).den) (D125 : Dt125) (g77_3 : List El125 → sh77_3.den → Option (sh77_3.den ⊕ denX w77_3)) : (SV.denL ps77) → Option (rs77).den := runFn tb [(95, mkCall ps95 rs95 F95), (115, mkCall ps115 rs115 F115)] [(3, rangeO (rgG Tryz.f77 3) 125 (cap125 D125) sh77_3 w77_3 g77_3)] Tryz.f77 ps77 rs77
theorem call77 {F114 : (SV.denL ps114) → Option (rs114).den} {F115 : (SV.denL ps115) → Option (rs115).den} {F65 : (SV.denL ps65) → Option (rs65).den} {F95 : (SV.denL ps95) → Option (rs95).den} {g77_3 : List El125 → sh77_3.den → Option (sh77_3.den ⊕ denX w77_3)} {D125 : Dt125} (it125 : IterOK Tryz.prog 125 encs125 (cap125 D125)) (h114 : CallOK Tryz.prog 114 (mkCall ps114 rs114 F114)) (h115 : CallOK Tryz.prog 115 (mkCall ps115 rs115 F115)) (h65 : CallOK Tryz.prog 65 (mkCall ps65 rs65 F65)) (h95 : CallOK Tryz.prog 95 (mkCall ps95 rs95 F95)) (hg77_3 : foldR (S77_3 F65 F114) = g77_3) : CallOK Tryz.prog 77 (mkCall ps77 rs77 (F77 F95 F115 D125 g77_3)) :=
  runFn_ok mixed tabOK (Δ := [(95, mkCall ps95 rs95 F95), (115, mkCall ps115 rs115 F115)]) ⟨.inl h95, .inl h115, trivial⟩ ⟨Tryz.func77, rfl, by kernel_rfl, by kernel_rfl, by kernel_rfl, by kernel_rfl⟩ rfl (loopsAt_zip (cs := [.rangeFunc (rgG Tryz.f77 3) (rgP Tryz.f77 3) (rgA Tryz.f77 3) (rgB Tryz.f77 3)]) (by kernel_rfl) (by kernel_rfl) (by kernel_rfl) ⟨by rw [← hg77_3]; exact roundFn_ok mixed tabOK (Δ := [(65, mkCall ps65 rs65 F65), (114, mkCall ps114 rs114 F114)]) ⟨.inl h65, .inl h114, trivial⟩ it125 ⟨by kernel_rfl, rel125, fun _ => rfl, by kernel_rfl, by kernel_rfl, by kernel_rfl, by kernel_rfl⟩ (loopsAt_zip (Λ := []) (cs := []) (by kernel_rfl) (by kernel_rfl) (by kernel_rfl) trivial), trivial⟩)
/-! 73 bowline/wide.operation -/
abbrev ps73 : List SV := [.d false tS, .d false tS, .d false .fv]
abbrev rs73 : Shape := ⟨[(0, .d false tS), (1, .d false tI)], []⟩
noncomputable def F73 (F41 : (SV.denL ps41) → Option (rs41).den) (F55 : (SV.denL ps55) → Option (rs55).den) (F66 : (SV.denL ps66) → Option (rs66).den) (F74 : (SV.denL ps74) → Option (rs74).den) (F75 : (SV.denL ps75) → Option (rs75).den) (F77 : (SV.denL ps77) → Option (rs77).den) (F81 : (SV.denL ps81) → Option (rs81).den) : (SV.denL ps73) → Option (rs73).den := runFn tb [(41, mkCall ps41 rs41 F41), (55, mkCall ps55 rs55 F55), (66, mkCall ps66 rs66 F66), (74, mkCall ps74 rs74 F74), (75, mkCall ps75 rs75 F75), (77, mkCall ps77 rs77 F77), (81, mkCall ps81 rs81 F81)] [] Tryz.f73 ps73 rs73
theorem call73 {F41 : (SV.denL ps41) → Option (rs41).den} {F55 : (SV.denL ps55) → Option (rs55).den} {F66 : (SV.denL ps66) → Option (rs66).den} {F74 : (SV.denL ps74) → Option (rs74).den} {F75 : (SV.denL ps75) → Option (rs75).den} {F77 : (SV.denL ps77) → Option (rs77).den} {F81 : (SV.denL ps81) → Option (rs81).den} (h41 : CallOK Tryz.prog 41 (mkCall ps41 rs41 F41)) (h55 : CallOK Tryz.prog 55 (mkCall ps55 rs55 F55)) (h66 : CallOK Tryz.prog 66 (mkCall ps66 rs66 F66)) (h74 : CallOK Tryz.prog 74 (mkCall ps74 rs74 F74)) (h75 : CallOK Tryz.prog 75 (mkCall ps75 rs75 F75)) (h77 : CallOK Tryz.prog 77 (mkCall ps77 rs77 F77)) (h81 : CallOK Tryz.prog 81 (mkCall ps81 rs81 F81)) : CallOK Tryz.prog 73 (mkCall ps73 rs73 (F73 F41 F55 F66 F74 F75 F77 F81)) :=
  runFn_ok mixed tabOK (Δ := [(41, mkCall ps41 rs41 F41), (55, mkCall ps55 rs55 F55), (66, mkCall ps66 rs66 F66), (74, mkCall ps74 rs74 F74), (75, mkCall ps75 rs75 F75), (77, mkCall ps77 rs77 F77), (81, mkCall ps81 rs81 F81)]) ⟨.inl h41, .inl h55, .inl h66, .inl h74, .inl h75, .inl h77, .inl h81, trivial⟩ ⟨Tryz.func73, rfl, by kernel_rfl, by kernel_rfl, by kernel_rfl, by kernel_rfl⟩ rfl (loopsAt_zip (Λ := []) (cs := []) (by kernel_rfl) (by kernel_rfl) (by kernel_rfl) trivial)
/-! 31 bowline/wide.Mul -/
abbrev ps31 : List SV := [.d false tS, .d false tS]
abbrev rs31 : Shape := ⟨[(0, .d false tS), (1, .d false tI)], []⟩
noncomputable def F31 (F73 : (SV.denL ps73) → Option (rs73).den) : (SV.denL ps31) → Option (rs31).den := runFn tb [(73, mkCall ps73 rs73 F73)] [] Tryz.f31 ps31 rs31
theorem call31 {F73 : (SV.denL ps73) → Option (rs73).den} (h73 : CallOK Tryz.prog 73 (mkCall ps73 rs73 F73)) : CallOK Tryz.prog 31 (mkCall ps31 rs31 (F31 F73)) :=
  runFn_ok mixed tabOK (Δ := [(73, mkCall ps73 rs73 F73)]) ⟨.inl h73, trivial⟩ ⟨Tryz.func31, rfl, by kernel_rfl, by kernel_rfl, by kernel_rfl, by kernel_rfl⟩ rfl (loopsAt_zip (Λ := []) (cs := []) (by kernel_rfl) (by kernel_rfl) (by kernel_rfl) trivial)
/-! 117 bowline/wide.divided -/
abbrev ps117 : List SV := [.d false tN, .d false tN]
abbrev rs117 : Shape := ⟨[(0, .d false tN), (1, .d false tN)], []⟩
abbrev sh117_8 : Shape := ⟨[(3, .pt 0 0), (6, .pt 1 0), (7, .pt 2 0), (8, .d false tI), (10, .d false tU), (11, .d false tU)], [.box 83 [.d false tN], .box 83 [.rf 3], .box 83 [.d false tN], .row tU 102]⟩
abbrev w117_8 : List Way := [(some 2, ⟨[(3, .pt 0 0), (6, .pt 1 0), (7, .pt 2 0), (8, .d false tI), (10, .d false tU)], [.box 83 [.d false tN], .box 83 [.rf 3], .box 83 [.d false tN], .row tU 102]⟩)]
abbrev sh117_4 : Shape := ⟨[(3, .pt 0 0), (6, .pt 1 0), (7, .pt 2 0)], [.box 83 [.d false tN], .box 83 [.rf 3], .box 83 [.d false tN], .row tU 102]⟩
abbrev w117_4 : List Way := []
noncomputable def S117_8 (F65 : (SV.denL ps65) → Option (rs65).den) (F94 : (SV.denL ps94) → Option (rs94).den) : sh117_8.den → Option (sh117_8.den ⊕ denX w117_8) := stepFn tb [(65, mkCall ps65 rs65 F65), (94, mkCall ps94 rs94 F94)] [] (roundOk (upTo 56) (slotsOf sh117_4.sl ++ slotsX w117_4)) Tryz.f117 8 sh117_8 w117_8
noncomputable def S117_4 (F65 : (SV.denL ps65) → Option (rs65).den) (F101 : (SV.denL ps101) → Option (rs101).den) (F116 : (SV.denL ps116) → Option (rs116).den) (g117_8 : sh117_8.den → Option (denX w117_8)) : El125 → sh117_4.den → Option (sh117_4.den ⊕ denX w117_4) := roundFn tb [(65, mkCall ps65 rs65 F65), (101, mkCall ps101 rs101 F101), (116, mkCall ps116 rs116 F116)] [(8, lp sh117_8 w117_8 g117_8)] (upTo 56) Tryz.f117 4 avs125 [(8, 18), (9, 19)] sh117_4 w117_4
noncomputable def F117 (F95 : (SV.denL ps95) → Option (rs95).den) (F101 : (SV.denL ps101) → Option (rs101).den) (D125 : Dt125) (g117_4 : List El125 → sh117_4.den → Option (sh117_4.den ⊕ denX w117_4)) : (SV.denL ps117) → Option (rs117).den := runFn tb [(95, mkCall ps95 rs95 F95), (101, mkCall ps101 rs101 F101)] [(4, rangeO (rgG Tryz.f117 4) 125 (cap125 D125) sh117_4 w117_4 g117_4)] Tryz.f117 ps117 rs117
theorem call117 {F101 : (SV.denL ps101) → Option (rs101).den} {F116 : (SV.denL ps116) → Option (rs116).den} {F65 : (SV.denL ps65) → Option (rs65).den} {F94 : (SV.denL ps94) → Option (rs94).den} {F95 : (SV.denL ps95) → Option (rs95).den} {g117_8 : sh117_8.den → Option (denX w117_8)} {g117_4 : List El125 → sh117_4.den → Option (sh117_4.den ⊕ denX w117_4)} {D125 : Dt125} (it125 : IterOK Tryz.prog 125 encs125 (cap125 D125)) (h101 : CallOK Tryz.prog 101 (mkCall ps101 rs101 F101)) (h116 : CallOK Tryz.prog 116 (mkCall ps116 rs116 F116)) (h65 : CallOK Tryz.prog 65 (mkCall ps65 rs65 F65)) (h94 : CallOK Tryz.prog 94 (mkCall ps94 rs94 F94)) (h95 : CallOK Tryz.prog 95 (mkCall ps95 rs95 F95)) (hg117_8 : Lim (S117_8 F65 F94) g117_8) (hg117_4 : foldR (S117_4 F65 F101 F116 g117_8) = g117_4) : CallOK Tryz.prog 117 (mkCall ps117 rs117 (F117 F95 F101 D125 g117_4)) :=
  runFn_ok mixed tabOK (Δ := [(95, mkCall ps95 rs95 F95), (101, mkCall ps101 rs101 F101)]) ⟨.inl h95, .inl h101, trivial⟩ ⟨Tryz.func117, rfl, by kernel_rfl, by kernel_rfl, by kernel_rfl, by kernel_rfl⟩ rfl (loopsAt_zip (cs := [.rangeFunc (rgG Tryz.f117 4) (rgP Tryz.f117 4) (rgA Tryz.f117 4) (rgB Tryz.f117 4)]) (by kernel_rfl) (by kernel_rfl) (by kernel_rfl) ⟨by rw [← hg117_4]; exact roundFn_ok mixed tabOK (Δ := [(65, mkCall ps65 rs65 F65), (101, mkCall ps101 rs101 F101), (116, mkCall ps116 rs116 F116)]) ⟨.inl h65, .inl h101, .inl h116, trivial⟩ it125 ⟨by kernel_rfl, rel125, fun _ => rfl, by kernel_rfl, by kernel_rfl, by kernel_rfl, by kernel_rfl⟩ (loopsAt_zip (cs := [.loop (loopOf Tryz.f117 8)]) (by kernel_rfl) (by kernel_rfl) (by kernel_rfl) ⟨stepLim_ok mixed tabOK (Δ := [(65, mkCall ps65 rs65 F65), (94, mkCall ps94 rs94 F94)]) ⟨.inl h65, .inl h94, trivial⟩ hg117_8 (loopsAt_zip (Λ := []) (cs := []) (by kernel_rfl) (by kernel_rfl) (by kernel_rfl) trivial), trivial⟩), trivial⟩)
/-! 79 (bowline/wide.exact).truncated -/
abbrev ps79 : List SV := [.d true tZ, .d true tZ]
abbrev rs79 : Shape := ⟨[(0, .d true (.pr tZ tZ))], []⟩
noncomputable def F79 (F115 : (SV.denL ps115) → Option (rs115).den) (F117 : (SV.denL ps117) → Option (rs117).den) : (SV.denL ps79) → Option (rs79).den := runFn tb [(115, mkCall ps115 rs115 F115), (117, mkCall ps117 rs117 F117)] [] Tryz.f79 ps79 rs79
theorem call79 {F115 : (SV.denL ps115) → Option (rs115).den} {F117 : (SV.denL ps117) → Option (rs117).den} (h115 : CallOK Tryz.prog 115 (mkCall ps115 rs115 F115)) (h117 : CallOK Tryz.prog 117 (mkCall ps117 rs117 F117)) : CallOK Tryz.prog 79 (mkCall ps79 rs79 (F79 F115 F117)) :=
  runFn_ok mixed tabOK (Δ := [(115, mkCall ps115 rs115 F115), (117, mkCall ps117 rs117 F117)]) ⟨.inl h115, .inl h117, trivial⟩ ⟨Tryz.func79, rfl, by kernel_rfl, by kernel_rfl, by kernel_rfl, by kernel_rfl⟩ rfl (loopsAt_zip (Λ := []) (cs := []) (by kernel_rfl) (by kernel_rfl) (by kernel_rfl) trivial)
/-! 80 bowline/wide.DivFloor$1 -/
abbrev ps80 : List SV := [.d true tZ, .d true tZ]
abbrev rs80 : Shape := ⟨[(0, .d true (.pr tZ tZ))], []⟩
noncomputable def F80 (F74 : (SV.denL ps74) → Option (rs74).den) (F79 : (SV.denL ps79) → Option (rs79).den) (F81 : (SV.denL ps81) → Option (rs81).den) : (SV.denL ps80) → Option (rs80).den := runFn tb [(74, mkCall ps74 rs74 F74), (79, mkCall ps79 rs79 F79), (81, mkCall ps81 rs81 F81)] [] Tryz.f80 ps80 rs80
theorem call80 {F74 : (SV.denL ps74) → Option (rs74).den} {F79 : (SV.denL ps79) → Option (rs79).den} {F81 : (SV.denL ps81) → Option (rs81).den} (h74 : CallOK Tryz.prog 74 (mkCall ps74 rs74 F74)) (h79 : CallOK Tryz.prog 79 (mkCall ps79 rs79 F79)) (h81 : CallOK Tryz.prog 81 (mkCall ps81 rs81 F81)) : CallOK Tryz.prog 80 (mkCall ps80 rs80 (F80 F74 F79 F81)) :=
  runFn_ok mixed tabOK (Δ := [(74, mkCall ps74 rs74 F74), (79, mkCall ps79 rs79 F79), (81, mkCall ps81 rs81 F81)]) ⟨.inl h74, .inl h79, .inl h81, trivial⟩ ⟨Tryz.func80, rfl, by kernel_rfl, by kernel_rfl, by kernel_rfl, by kernel_rfl⟩ rfl (loopsAt_zip (Λ := []) (cs := []) (by kernel_rfl) (by kernel_rfl) (by kernel_rfl) trivial)
/-! 78 bowline/wide.division -/
abbrev ps78 : List SV := [.d false tS, .d false tS, .d false .fv]
abbrev rs78 : Shape := ⟨[(0, .d false tS), (1, .d false tS), (2, .d false tI)], []⟩
noncomputable def F78 (F41 : (SV.denL ps41) → Option (rs41).den) (F55 : (SV.denL ps55) → Option (rs55).den) (F56 : (SV.denL ps56) → Option (rs56).den) (F66 : (SV.denL ps66) → Option (rs66).den) (F79 : (SV.denL ps79) → Option (rs79).den) (F80 : (SV.denL ps80) → Option (rs80).den) (F81 : (SV.denL ps81) → Option (rs81).den) : (SV.denL ps78) → Option (rs78).den := runFn tb [(41, mkCall ps41 rs41 F41), (55, mkCall ps55 rs55 F55), (56, mkCall ps56 rs56 F56), (66, mkCall ps66 rs66 F66), (79, mkCall ps79 rs79 F79), (80, mkCall ps80 rs80 F80), (81, mkCall ps81 rs81 F81)] [] Tryz.f78 ps78 rs78
theorem call78 {F41 : (SV.denL ps41) → Option (rs41).den} {F55 : (SV.denL ps55) → Option (rs55).den} {F56 : (SV.denL ps56) → Option (rs56).den} {F66 : (SV.denL ps66) → Option (rs66).den} {F79 : (SV.denL ps79) → Option (rs79).den} {F80 : (SV.denL ps80) → Option (rs80).den} {F81 : (SV.denL ps81) → Option (rs81).den} (h41 : CallOK Tryz.prog 41 (mkCall ps41 rs41 F41)) (h55 : CallOK Tryz.prog 55 (mkCall ps55 rs55 F55)) (h56 : CallOK Tryz.prog 56 (mkCall ps56 rs56 F56)) (h66 : CallOK Tryz.prog 66 (mkCall ps66 rs66 F66)) (h79 : CallOK Tryz.prog 79 (mkCall ps79 rs79 F79)) (h80 : CallOK Tryz.prog 80 (mkCall ps80 rs80 F80)) (h81 : CallOK Tryz.prog 81 (mkCall ps81 rs81 F81)) : CallOK Tryz.prog 78 (mkCall ps78 rs78 (F78 F41 F55 F56 F66 F79 F80 F81)) :=
  runFn_ok mixed tabOK (Δ := [(41, mkCall ps41 rs41 F41), (55, mkCall ps55 rs55 F55), (56, mkCall ps56 rs56 F56), (66, mkCall ps66 rs66 F66), (79, mkCall ps79 rs79 F79), (80, mkCall ps80 rs80 F80), (81, mkCall ps81 rs81 F81)]) ⟨.inl h41, .inl h55, .inl h56, .inl h66, .inl h79, .inl h80, .inl h81, trivial⟩ ⟨Tryz.func78, rfl, by kernel_rfl, by kernel_rfl, by kernel_rfl, by kernel_rfl⟩ rfl (loopsAt_zip (Λ := []) (cs := []) (by kernel_rfl) (by kernel_rfl) (by kernel_rfl) trivial)
/-! 33 bowline/wide.DivFloor -/
abbrev ps33 : List SV := [.d false tS, .d false tS]
abbrev rs33 : Shape := ⟨[(0, .d false tS), (1, .d false tS), (2, .d false tI)], []⟩
noncomputable def F33 (F78 : (SV.denL ps78) → Option (rs78).den) : (SV.denL ps33) → Option (rs33).den := runFn tb [(78, mkCall ps78 rs78 F78)] [] Tryz.f33 ps33 rs33
theorem call33 {F78 : (SV.denL ps78) → Option (rs78).den} (h78 : CallOK Tryz.prog 78 (mkCall ps78 rs78 F78)) : CallOK Tryz.prog 33 (mkCall ps33 rs33 (F33 F78)) :=
  runFn_ok mixed tabOK (Δ := [(78, mkCall ps78 rs78 F78)]) ⟨.inl h78, trivial⟩ ⟨Tryz.func33, rfl, by kernel_rfl, by kernel_rfl, by kernel_rfl, by kernel_rfl⟩ rfl (loopsAt_zip (Λ := []) (cs := []) (by kernel_rfl) (by kernel_rfl) (by kernel_rfl) trivial)
/-! 10 bowline/bowlinelaw01.awake -/
abbrev ps10 : List SV := []
abbrev rs10 : Shape := ⟨[(0, .d false .bool)], []⟩
noncomputable def F10 (F11 : (SV.denL ps11) → Option (rs11).den) (F13 : (SV.denL ps13) → Option (rs13).den) (F15 : (SV.denL ps15) → Option (rs15).den) (F17 : (SV.denL ps17) → Option (rs17).den) (F19 : (SV.denL ps19) → Option (rs19).den) (F21 : (SV.denL ps21) → Option (rs21).den) (F23 : (SV.denL ps23) → Option (rs23).den) (F25 : (SV.denL ps25) → Option (rs25).den) (F31 : (SV.denL ps31) → Option (rs31).den) (F33 : (SV.denL ps33) → Option (rs33).den) : (SV.denL ps10) → Option (rs10).den := runFn tb [(11, mkCall ps11 rs11 F11), (13, mkCall ps13 rs13 F13), (15, mkCall ps15 rs15 F15), (17, mkCall ps17 rs17 F17), (19, mkCall ps19 rs19 F19), (21, mkCall ps21 rs21 F21), (23, mkCall ps23 rs23 F23), (25, mkCall ps25 rs25 F25), (31, mkCall ps31 rs31 F31), (33, mkCall ps33 rs33 F33)] [] Tryz.f10 ps10 rs10
theorem call10 {F11 : (SV.denL ps11) → Option (rs11).den} {F13 : (SV.denL ps13) → Option (rs13).den} {F15 : (SV.denL ps15) → Option (rs15).den} {F17 : (SV.denL ps17) → Option (rs17).den} {F19 : (SV.denL ps19) → Option (rs19).den} {F21 : (SV.denL ps21) → Option (rs21).den} {F23 : (SV.denL ps23) → Option (rs23).den} {F25 : (SV.denL ps25) → Option (rs25).den} {F31 : (SV.denL ps31) → Option (rs31).den} {F33 : (SV.denL ps33) → Option (rs33).den} (h11 : CallOK Tryz.prog 11 (mkCall ps11 rs11 F11)) (h13 : CallOK Tryz.prog 13 (mkCall ps13 rs13 F13)) (h15 : CallOK Tryz.prog 15 (mkCall ps15 rs15 F15)) (h17 : CallOK Tryz.prog 17 (mkCall ps17 rs17 F17)) (h19 : CallOK Tryz.prog 19 (mkCall ps19 rs19 F19)) (h21 : CallOK Tryz.prog 21 (mkCall ps21 rs21 F21)) (h23 : CallOK Tryz.prog 23 (mkCall ps23 rs23 F23)) (h25 : CallOK Tryz.prog 25 (mkCall ps25 rs25 F25)) (h31 : CallOK Tryz.prog 31 (mkCall ps31 rs31 F31)) (h33 : CallOK Tryz.prog 33 (mkCall ps33 rs33 F33)) : CallOK Tryz.prog 10 (mkCall ps10 rs10 (F10 F11 F13 F15 F17 F19 F21 F23 F25 F31 F33)) :=
  runFn_ok mixed tabOK (Δ := [(11, mkCall ps11 rs11 F11), (13, mkCall ps13 rs13 F13), (15, mkCall ps15 rs15 F15), (17, mkCall ps17 rs17 F17), (19, mkCall ps19 rs19 F19), (21, mkCall ps21 rs21 F21), (23, mkCall ps23 rs23 F23), (25, mkCall ps25 rs25 F25), (31, mkCall ps31 rs31 F31), (33, mkCall ps33 rs33 F33)]) ⟨.inl h11, .inl h13, .inl h15, .inl h17, .inl h19, .inl h21, .inl h23, .inl h25, .inl h31, .inl h33, trivial⟩ ⟨Tryz.func10, rfl, by kernel_rfl, by kernel_rfl, by kernel_rfl, by kernel_rfl⟩ rfl (loopsAt_zip (Λ := []) (cs := []) (by kernel_rfl) (by kernel_rfl) (by kernel_rfl) trivial)
/-! 59 bowline/bowlineref01.When -/
abbrev ps59 : List SV := [.d false .bool, .d false tI]
abbrev rs59 : Shape := ⟨[(0, .d false tI)], []⟩
noncomputable def F59 : (SV.denL ps59) → Option (rs59).den := runFn tb [] [] Tryz.f59 ps59 rs59
/-! 72 bowline/bowlineref01.IsDigit -/
abbrev ps72 : List SV := [.d false (.int .u8)]
abbrev rs72 : Shape := ⟨[(0, .d false .bool)], []⟩
noncomputable def F72 : (SV.denL ps72) → Option (rs72).den := runFn tb [] [] Tryz.f72 ps72 rs72
theorem call72 : CallOK Tryz.prog 72 (mkCall ps72 rs72 (F72)) :=
  runFn_ok mixed tabOK (Δ := []) trivial ⟨Tryz.func72, rfl, by kernel_rfl, by kernel_rfl, by kernel_rfl, by kernel_rfl⟩ rfl (loopsAt_zip (Λ := []) (cs := []) (by kernel_rfl) (by kernel_rfl) (by kernel_rfl) trivial)
/-! 91 bowline/bowlineref01.Number -/
abbrev ps91 : List SV := [.d false tS]
abbrev rs91 : Shape := ⟨[(0, .d false tI), (1, .d false .bool)], []⟩
abbrev sh91_5 : Shape := ⟨[(0, .d false tS), (4, .d false tI), (5, .d false tI)], []⟩
abbrev w91_5 : List Way := [(none, ⟨[(2, .d false tI), (3, .d false .bool)], []⟩), (some 0, ⟨[(4, .d false tI)], []⟩)]
noncomputable def F91 (g91_5 : sh91_5.den → Option (denX w91_5)) : (SV.denL ps91) → Option (rs91).den := runFn tb [] [(5, lp sh91_5 w91_5 g91_5)] Tryz.f91 ps91 rs91
/-! 43 bowline/bowlineref01.parts -/
abbrev ps43 : List SV := [.d false tS]
abbrev rs43 : Shape := ⟨[(0, .d false .bool), (1, .d false tI), (2, .d false tI)], []⟩
noncomputable def F43 (F59 : (SV.denL ps59) → Option (rs59).den) (F91 : (SV.denL ps91) → Option (rs91).den) : (SV.denL ps43) → Option (rs43).den := runFn tb [(59, mkCall ps59 rs59 F59), (91, mkCall ps91 rs91 F91)] [] Tryz.f43 ps43 rs43
/-! 12 bowline/bowlineref01.Width -/
abbrev ps12 : List SV := [.d false tS]
abbrev rs12 : Shape := ⟨[(0, .d false tI), (1, .d false .bool), (2, .d false tI)], []⟩
noncomputable def F12 (F43 : (SV.denL ps43) → Option (rs43).den) : (SV.denL ps12) → Option (rs12).den := runFn tb [(43, mkCall ps43 rs43 F43)] [] Tryz.f12 ps12 rs12
/-! 16 bowline/bowlineref01.Check -/
abbrev ps16 : List SV := [.d false tS]
abbrev rs16 : Shape := ⟨[(0, .d false tI)], []⟩
noncomputable def F16 (F43 : (SV.denL ps43) → Option (rs43).den) : (SV.denL ps16) → Option (rs16).den := runFn tb [(43, mkCall ps43 rs43 F43)] [] Tryz.f16 ps16 rs16
/-! 96 bowline/bowlineref01.trimmed -/
abbrev ps96 : List SV := [.d true (.pr .bool (.sl tI))]
abbrev rs96 : Shape := ⟨[(0, .d true (.pr .bool (.sl tI)))], []⟩
abbrev sh96_2 : Shape := ⟨[(1, .pt 0 0), (2, .pt 1 0), (3, .d false tI)], [.box 79 [.d false .bool, .d false (.sl tI)], .box 79 [.d false .bool, .d false (.sl tI)]]⟩
abbrev w96_2 : List Way := [(some 0, sh96_2)]
noncomputable def S96_2 : sh96_2.den → Option (sh96_2.den ⊕ denX w96_2) := stepFn tb [] [] (upTo 29) Tryz.f96 2 sh96_2 w96_2
noncomputable def F96 (g96_2 : sh96_2.den → Option (denX w96_2)) : (SV.denL ps96) → Option (rs96).den := runFn tb [] [(2, lp sh96_2 w96_2 g96_2)] Tryz.f96 ps96 rs96
theorem call96 {g96_2 : sh96_2.den → Option (denX w96_2)} (hg96_2 : Lim (S96_2) g96_2) : CallOK Tryz.prog 96 (mkCall ps96 rs96 (F96 g96_2)) :=
  runFn_ok mixed tabOK (Δ := []) trivial ⟨Tryz.func96, rfl, by kernel_rfl, by kernel_rfl, by kernel_rfl, by kernel_rfl⟩ rfl (loopsAt_zip (cs := [.loop (loopOf Tryz.f96 2)]) (by kernel_rfl) (by kernel_rfl) (by kernel_rfl) ⟨stepLim_ok mixed tabOK (Δ := []) trivial hg96_2 (loopsAt_zip (Λ := []) (cs := []) (by kernel_rfl) (by kernel_rfl) (by kernel_rfl) trivial), trivial⟩)
/-! 52 bowline/bowlineref01.Read -/
abbrev ps52 : List SV := [.d false tS]
abbrev rs52 : Shape := ⟨[(0, .d true (.pr .bool (.sl tI)))], []⟩
abbrev sh52_6 : Shape := ⟨[(0, .d false tS), (2, .pt 0 0), (3, .pt 1 0), (4, .d false tI)], [.box 79 [.d false .bool, .d false (.sl tI)], .box 79 [.d false .bool, .rf 2], .row tI 3]⟩
abbrev w52_6 : List Way := [(some 0, ⟨[(2, .pt 0 0), (3, .pt 1 0)], [.box 79 [.d false .bool, .d false (.sl tI)], .box 79 [.d false .bool, .rf 2], .row tI 3]⟩)]
noncomputable def S52_6 : sh52_6.den → Option (sh52_6.den ⊕ denX w52_6) := stepFn tb [] [] (upTo 34) Tryz.f52 6 sh52_6 w52_6
noncomputable def F52 (F96 : (SV.denL ps96) → Option (rs96).den) (g52_6 : sh52_6.den → Option (denX w52_6)) : (SV.denL ps52) → Option (rs52).den := runFn tb [(96, mkCall ps96 rs96 F96)] [(6, lp sh52_6 w52_6 g52_6)] Tryz.f52 ps52 rs52
theorem call52 {F96 : (SV.denL ps96) → Option (rs96).den} {g52_6 : sh52_6.den → Option (denX w52_6)} (h96 : CallOK Tryz.prog 96 (mkCall ps96 rs96 F96)) (hg52_6 : Lim (S52_6) g52_6) : CallOK Tryz.prog 52 (mkCall ps52 rs52 (F52 F96 g52_6)) :=
  runFn_ok mixed tabOK (Δ := [(96, mkCall ps96 rs96 F96)]) ⟨.inl h96, trivial⟩ ⟨Tryz.func52, rfl, by kernel_rfl, by kernel_rfl, by kernel_rfl, by kernel_rfl⟩ rfl (loopsAt_zip (cs := [.loop (loopOf Tryz.f52 6)]) (by kernel_rfl) (by kernel_rfl) (by kernel_rfl) ⟨stepLim_ok mixed tabOK (Δ := []) trivial hg52_6 (loopsAt_zip (Λ := []) (cs := []) (by kernel_rfl) (by kernel_rfl) (by kernel_rfl) trivial), trivial⟩)
/-! 140 bowline/bowlineref01.natural -/
abbrev ps140 : List SV := [.d false tI, .d false tI]
abbrev rs140 : Shape := ⟨[(0, .d false tS)], []⟩
noncomputable def F140 (R140 : (SV.denL ps140) → Option (rs140).den) : (SV.denL ps140) → Option (rs140).den := runFn tb [(140, mkCall ps140 rs140 R140)] [] Tryz.f140 ps140 rs140
theorem call140 {R140 : (SV.denL ps140) → Option (rs140).den} (h140 : CallOK Tryz.prog 140 (mkCall ps140 rs140 R140)) : CallOK Tryz.prog 140 (mkCall ps140 rs140 (F140 R140)) :=
  runFn_ok mixed tabOK (Δ := [(140, mkCall ps140 rs140 R140)]) ⟨.inl h140, trivial⟩ ⟨Tryz.func140, rfl, by kernel_rfl, by kernel_rfl, by kernel_rfl, by kernel_rfl⟩ rfl (loopsAt_zip (Λ := []) (cs := []) (by kernel_rfl) (by kernel_rfl) (by kernel_rfl) trivial)
/-! 113 bowline/bowlineref01.Text -/
abbrev ps113 : List SV := [.d false tI]
abbrev rs113 : Shape := ⟨[(0, .d false tS)], []⟩
noncomputable def F113 (F140 : (SV.denL ps140) → Option (rs140).den) : (SV.denL ps113) → Option (rs113).den := runFn tb [(140, mkCall ps140 rs140 F140)] [] Tryz.f113 ps113 rs113
theorem call113 {F140 : (SV.denL ps140) → Option (rs140).den} (h140 : CallOK Tryz.prog 140 (mkCall ps140 rs140 F140)) : CallOK Tryz.prog 113 (mkCall ps113 rs113 (F113 F140)) :=
  runFn_ok mixed tabOK (Δ := [(140, mkCall ps140 rs140 F140)]) ⟨.inl h140, trivial⟩ ⟨Tryz.func113, rfl, by kernel_rfl, by kernel_rfl, by kernel_rfl, by kernel_rfl⟩ rfl (loopsAt_zip (Λ := []) (cs := []) (by kernel_rfl) (by kernel_rfl) (by kernel_rfl) trivial)
/-! 70 bowline/bowlineref01.Small -/
abbrev ps70 : List SV := [.d false tI]
abbrev rs70 : Shape := ⟨[(0, .d true (.pr .bool (.sl tI)))], []⟩
noncomputable def F70 (F52 : (SV.denL ps52) → Option (rs52).den) (F113 : (SV.denL ps113) → Option (rs113).den) : (SV.denL ps70) → Option (rs70).den := runFn tb [(52, mkCall ps52 rs52 F52), (113, mkCall ps113 rs113 F113)] [] Tryz.f70 ps70 rs70
theorem call70 {F113 : (SV.denL ps113) → Option (rs113).den} {F52 : (SV.denL ps52) → Option (rs52).den} (h113 : CallOK Tryz.prog 113 (mkCall ps113 rs113 F113)) (h52 : CallOK Tryz.prog 52 (mkCall ps52 rs52 F52)) : CallOK Tryz.prog 70 (mkCall ps70 rs70 (F70 F52 F113)) :=
  runFn_ok mixed tabOK (Δ := [(52, mkCall ps52 rs52 F52), (113, mkCall ps113 rs113 F113)]) ⟨.inl h52, .inl h113, trivial⟩ ⟨Tryz.func70, rfl, by kernel_rfl, by kernel_rfl, by kernel_rfl, by kernel_rfl⟩ rfl (loopsAt_zip (Λ := []) (cs := []) (by kernel_rfl) (by kernel_rfl) (by kernel_rfl) trivial)
/-! 112 bowline/bowlineref01.digit -/
abbrev ps112 : List SV := [.d false (.sl tI), .d false tI]
abbrev rs112 : Shape := ⟨[(0, .d false tI)], []⟩
noncomputable def F112 : (SV.denL ps112) → Option (rs112).den := runFn tb [] [] Tryz.f112 ps112 rs112
theorem call112 : CallOK Tryz.prog 112 (mkCall ps112 rs112 (F112)) :=
  runFn_ok mixed tabOK (Δ := []) trivial ⟨Tryz.func112, rfl, by kernel_rfl, by kernel_rfl, by kernel_rfl, by kernel_rfl⟩ rfl (loopsAt_zip (Λ := []) (cs := []) (by kernel_rfl) (by kernel_rfl) (by kernel_rfl) trivial)
/-! 109 bowline/bowlineref01.together -/
abbrev ps109 : List SV := [.d false (.sl tI), .d false (.sl tI)]
abbrev rs109 : Shape := ⟨[(0, .d false (.sl tI))], []⟩
abbrev sh109_4 : Shape := ⟨[(0, .d false (.sl tI)), (1, .d false (.sl tI)), (5, .rf 0), (6, .d false tI), (7, .d false tI)], [.row tI 3]⟩
abbrev w109_4 : List Way := [(some 0, ⟨[(5, .rf 0)], [.row tI 3]⟩)]
noncomputable def S109_4 (F112 : (SV.denL ps112) → Option (rs112).den) : sh109_4.den → Option (sh109_4.den ⊕ denX w109_4) := stepFn tb [(112, mkCall ps112 rs112 F112)] [] (upTo 42) Tryz.f109 4 sh109_4 w109_4
noncomputable def F109 (g109_4 : sh109_4.den → Option (denX w109_4)) : (SV.denL ps109) → Option (rs109).den := runFn tb [] [(4, lp sh109_4 w109_4 g109_4)] Tryz.f109 ps109 rs109
theorem call109 {F112 : (SV.denL ps112) → Option (rs112).den} {g109_4 : sh109_4.den → Option (denX w109_4)} (h112 : CallOK Tryz.prog 112 (mkCall ps112 rs112 F112)) (hg109_4 : Lim (S109_4 F112) g109_4) : CallOK Tryz.prog 109 (mkCall ps109 rs109 (F109 g109_4)) :=
  runFn_ok mixed tabOK (Δ := []) trivial ⟨Tryz.func109, rfl, by kernel_rfl, by kernel_rfl, by kernel_rfl, by kernel_rfl⟩ rfl (loopsAt_zip (cs := [.loop (loopOf Tryz.f109 4)]) (by kernel_rfl) (by kernel_rfl) (by kernel_rfl) ⟨stepLim_ok mixed tabOK (Δ := [(112, mkCall ps112 rs112 F112)]) ⟨.inl h112, trivial⟩ hg109_4 (loopsAt_zip (Λ := []) (cs := []) (by kernel_rfl) (by kernel_rfl) (by kernel_rfl) trivial), trivial⟩)
/-! 110 bowline/bowlineref01.magnitudes -/
abbrev ps110 : List SV := [.d false (.sl tI), .d false (.sl tI)]
abbrev rs110 : Shape := ⟨[(0, .d false tI)], []⟩
abbrev sh110_2 : Shape := ⟨[(0, .d false (.sl tI)), (1, .d false (.sl tI)), (5, .d false tI)], []⟩
abbrev w110_2 : List Way := [(none, ⟨[(4, .d false tI)], []⟩), (some 0, ⟨[], []⟩)]
noncomputable def S110_2 (F112 : (SV.denL ps112) → Option (rs112).den) : sh110_2.den → Option (sh110_2.den ⊕ denX w110_2) := stepFn tb [(112, mkCall ps112 rs112 F112)] [] (upTo 30) Tryz.f110 2 sh110_2 w110_2
noncomputable def F110 (g110_2 : sh110_2.den → Option (denX w110_2)) : (SV.denL ps110) → Option (rs110).den := runFn tb [] [(2, lp sh110_2 w110_2 g110_2)] Tryz.f110 ps110 rs110
theorem call110 {F112 : (SV.denL ps112) → Option (rs112).den} {g110_2 : sh110_2.den → Option (denX w110_2)} (h112 : CallOK Tryz.prog 112 (mkCall ps112 rs112 F112)) (hg110_2 : Lim (S110_2 F112) g110_2) : CallOK Tryz.prog 110 (mkCall ps110 rs110 (F110 g110_2)) :=
  runFn_ok mixed tabOK (Δ := []) trivial ⟨Tryz.func110, rfl, by kernel_rfl, by kernel_rfl, by kernel_rfl, by kernel_rfl⟩ rfl (loopsAt_zip (cs := [.loop (loopOf Tryz.f110 2)]) (by kernel_rfl) (by kernel_rfl) (by kernel_rfl) ⟨stepLim_ok mixed tabOK (Δ := [(112, mkCall ps112 rs112 F112)]) ⟨.inl h112, trivial⟩ hg110_2 (loopsAt_zip (Λ := []) (cs := []) (by kernel_rfl) (by kernel_rfl) (by kernel_rfl) trivial), trivial⟩)
/-! 111 bowline/bowlineref01.apart -/
abbrev ps111 : List SV := [.d false (.sl tI), .d false (.sl tI)]
abbrev rs111 : Shape := ⟨[(0, .d false (.sl tI))], []⟩
abbrev sh111_4 : Shape := ⟨[(0, .d false (.sl tI)), (1, .d false (.sl tI)), (5, .rf 0), (6, .d false tI), (7, .d false tI)], [.row tI 3]⟩
abbrev w111_4 : List Way := [(some 0, ⟨[(5, .rf 0)], [.row tI 3]⟩)]
noncomputable def S111_4 (F112 : (SV.denL ps112) → Option (rs112).den) : sh111_4.den → Option (sh111_4.den ⊕ denX w111_4) := stepFn tb [(112, mkCall ps112 rs112 F112)] [] (upTo 33) Tryz.f111 4 sh111_4 w111_4
noncomputable def F111 (g111_4 : sh111_4.den → Option (denX w111_4)) : (SV.denL ps111) → Option (rs111).den := runFn tb [] [(4, lp sh111_4 w111_4 g111_4)] Tryz.f111 ps111 rs111
theorem call111 {F112 : (SV.denL ps112) → Option (rs112).den} {g111_4 : sh111_4.den → Option (denX w111_4)} (h112 : CallOK Tryz.prog 112 (mkCall ps112 rs112 F112)) (hg111_4 : Lim (S111_4 F112) g111_4) : CallOK Tryz.prog 111 (mkCall ps111 rs111 (F111 g111_4)) :=
  runFn_ok mixed tabOK (Δ := []) trivial ⟨Tryz.func111, rfl, by kernel_rfl, by kernel_rfl, by kernel_rfl, by kernel_rfl⟩ rfl (loopsAt_zip (cs := [.loop (loopOf Tryz.f111 4)]) (by kernel_rfl) (by kernel_rfl) (by kernel_rfl) ⟨stepLim_ok mixed tabOK (Δ := [(112, mkCall ps112 rs112 F112)]) ⟨.inl h112, trivial⟩ hg111_4 (loopsAt_zip (Λ := []) (cs := []) (by kernel_rfl) (by kernel_rfl) (by kernel_rfl) trivial), trivial⟩)
/-! 68 bowline/bowlineref01.Plus -/
abbrev ps68 : List SV := [.d true (.pr .bool (.sl tI)), .d true (.pr .bool (.sl tI))]
abbrev rs68 : Shape := ⟨[(0, .d true (.pr .bool (.sl tI)))], []⟩
noncomputable def F68 (F96 : (SV.denL ps96) → Option (rs96).den) (F109 : (SV.denL ps109) → Option (rs109).den) (F110 : (SV.denL ps110) → Option (rs110).den) (F111 : (SV.denL ps111) → Option (rs111).den) : (SV.denL ps68) → Option (rs68).den := runFn tb [(96, mkCall ps96 rs96 F96), (109, mkCall ps109 rs109 F109), (110, mkCall ps110 rs110 F110), (111, mkCall ps111 rs111 F111)] [] Tryz.f68 ps68 rs68
theorem call68 {F109 : (SV.denL ps109) → Option (rs109).den} {F110 : (SV.denL ps110) → Option (rs110).den} {F111 : (SV.denL ps111) → Option (rs111).den} {F96 : (SV.denL ps96) → Option (rs96).den} (h109 : CallOK Tryz.prog 109 (mkCall ps109 rs109 F109)) (h110 : CallOK Tryz.prog 110 (mkCall ps110 rs110 F110)) (h111 : CallOK Tryz.prog 111 (mkCall ps111 rs111 F111)) (h96 : CallOK Tryz.prog 96 (mkCall ps96 rs96 F96)) : CallOK Tryz.prog 68 (mkCall ps68 rs68 (F68 F96 F109 F110 F111)) :=
  runFn_ok mixed tabOK (Δ := [(96, mkCall ps96 rs96 F96), (109, mkCall ps109 rs109 F109), (110, mkCall ps110 rs110 F110), (111, mkCall ps111 rs111 F111)]) ⟨.inl h96, .inl h109, .inl h110, .inl h111, trivial⟩ ⟨Tryz.func68, rfl, by kernel_rfl, by kernel_rfl, by kernel_rfl, by kernel_rfl⟩ rfl (loopsAt_zip (Λ := []) (cs := []) (by kernel_rfl) (by kernel_rfl) (by kernel_rfl) trivial)
/-! 93 bowline/bowlineref01.Negated -/
abbrev ps93 : List SV := [.d true (.pr .bool (.sl tI))]
abbrev rs93 : Shape := ⟨[(0, .d true (.pr .bool (.sl tI)))], []⟩
noncomputable def F93 (F96 : (SV.denL ps96) → Option (rs96).den) : (SV.denL ps93) → Option (rs93).den := runFn tb [(96, mkCall ps96 rs96 F96)] [] Tryz.f93 ps93 rs93
/-! 82 bowline/bowlineref01.Minus -/
abbrev ps82 : List SV := [.d true (.pr .bool (.sl tI)), .d true (.pr .bool (.sl tI))]
abbrev rs82 : Shape := ⟨[(0, .d true (.pr .bool (.sl tI)))], []⟩
noncomputable def F82 (F68 : (SV.denL ps68) → Option (rs68).den) (F93 : (SV.denL ps93) → Option (rs93).den) : (SV.denL ps82) → Option (rs82).den := runFn tb [(68, mkCall ps68 rs68 F68), (93, mkCall ps93 rs93 F93)] [] Tryz.f82 ps82 rs82
/-! 69 bowline/bowlineref01.Times -/
abbrev ps69 : List SV := [.d true (.pr .bool (.sl tI)), .d true (.pr .bool (.sl tI))]
abbrev rs69 : Shape := ⟨[(0, .d true (.pr .bool (.sl tI)))], []⟩
abbrev sh69_7 : Shape := ⟨[(2, .pt 0 0), (3, .pt 1 0), (4, .pt 2 0), (5, .rf 3), (6, .d false tI), (7, .d false tI), (8, .d false tI)], [.box 79 [.d false .bool, .d false (.sl tI)], .box 79 [.d false .bool, .d false (.sl tI)], .box 79 [.d false .bool, .d false (.sl tI)], .row tI 3]⟩
abbrev w69_7 : List Way := [(some 2, ⟨[(2, .pt 0 0), (3, .pt 1 0), (4, .pt 2 0), (5, .rf 3), (6, .d false tI)], [.box 79 [.d false .bool, .d false (.sl tI)], .box 79 [.d false .bool, .d false (.sl tI)], .box 79 [.d false .bool, .d false (.sl tI)], .row tI 3]⟩)]
abbrev sh69_3 : Shape := ⟨[(2, .pt 0 0), (3, .pt 1 0), (4, .pt 2 0), (5, .rf 3), (6, .d false tI)], [.box 79 [.d false .bool, .d false (.sl tI)], .box 79 [.d false .bool, .d false (.sl tI)], .box 79 [.d false .bool, .d false (.sl tI)], .row tI 3]⟩
abbrev w69_3 : List Way := [(some 0, ⟨[(2, .pt 0 0), (3, .pt 1 0), (4, .pt 2 0), (5, .rf 3)], [.box 79 [.d false .bool, .d false (.sl tI)], .box 79 [.d false .bool, .d false (.sl tI)], .box 79 [.d false .bool, .d false (.sl tI)], .row tI 3]⟩)]
noncomputable def S69_7 (F112 : (SV.denL ps112) → Option (rs112).den) : sh69_7.den → Option (sh69_7.den ⊕ denX w69_7) := stepFn tb [(112, mkCall ps112 rs112 F112)] [] (upTo 69) Tryz.f69 7 sh69_7 w69_7
noncomputable def S69_3 (g69_7 : sh69_7.den → Option (denX w69_7)) : sh69_3.den → Option (sh69_3.den ⊕ denX w69_3) := stepFn tb [] [(7, lp sh69_7 w69_7 g69_7)] (upTo 69) Tryz.f69 3 sh69_3 w69_3
noncomputable def F69 (F96 : (SV.denL ps96) → Option (rs96).den) (g69_3 : sh69_3.den → Option (denX w69_3)) : (SV.denL ps69) → Option (rs69).den := runFn tb [(96, mkCall ps96 rs96 F96)] [(3, lp sh69_3 w69_3 g69_3)] Tryz.f69 ps69 rs69
theorem call69 {F112 : (SV.denL ps112) → Option (rs112).den} {F96 : (SV.denL ps96) → Option (rs96).den} {g69_7 : sh69_7.den → Option (denX w69_7)} {g69_3 : sh69_3.den → Option (denX w69_3)} (h112 : CallOK Tryz.prog 112 (mkCall ps112 rs112 F112)) (h96 : CallOK Tryz.prog 96 (mkCall ps96 rs96 F96)) (hg69_7 : Lim (S69_7 F112) g69_7) (hg69_3 : Lim (S69_3 g69_7) g69_3) : CallOK Tryz.prog 69 (mkCall ps69 rs69 (F69 F96 g69_3)) :=
  runFn_ok mixed tabOK (Δ := [(96, mkCall ps96 rs96 F96)]) ⟨.inl h96, trivial⟩ ⟨Tryz.func69, rfl, by kernel_rfl, by kernel_rfl, by kernel_rfl, by kernel_rfl⟩ rfl (loopsAt_zip (cs := [.loop (loopOf Tryz.f69 3)]) (by kernel_rfl) (by kernel_rfl) (by kernel_rfl) ⟨stepLim_ok mixed tabOK (Δ := []) trivial hg69_3 (loopsAt_zip (cs := [.loop (loopOf Tryz.f69 7)]) (by kernel_rfl) (by kernel_rfl) (by kernel_rfl) ⟨stepLim_ok mixed tabOK (Δ := [(112, mkCall ps112 rs112 F112)]) ⟨.inl h112, trivial⟩ hg69_7 (loopsAt_zip (Λ := []) (cs := []) (by kernel_rfl) (by kernel_rfl) (by kernel_rfl) trivial), trivial⟩), trivial⟩)
/-! 92 bowline/bowlineref01.Power -/
abbrev ps92 : List SV := [.d true (.pr .bool (.sl tI)), .d false tI]
abbrev rs92 : Shape := ⟨[(0, .d true (.pr .bool (.sl tI)))], []⟩
abbrev sh92_2 : Shape := ⟨[(1, .d false tI), (2, .pt 0 0), (4, .pt 1 0), (5, .pt 2 0)], [.box 79 [.d false .bool, .d false (.sl tI)], .box 79 [.d false .bool, .d false (.sl tI)], .box 79 [.d false .bool, .d false (.sl tI)]]⟩
abbrev w92_2 : List Way := [(some 0, ⟨[(4, .pt 0 0), (5, .pt 1 0)], [.box 79 [.d false .bool, .d false (.sl tI)], .box 79 [.d false .bool, .d false (.sl tI)]]⟩)]
noncomputable def F92 (F70 : (SV.denL ps70) → Option (rs70).den) (g92_2 : sh92_2.den → Option (denX w92_2)) : (SV.denL ps92) → Option (rs92).den := runFn tb [(70, mkCall ps70 rs70 F70)] [(2, lp sh92_2 w92_2 g92_2)] Tryz.f92 ps92 rs92
/-! 45 bowline/bowlineref01.Bounds -/
abbrev ps45 : List SV := [.d false tS]
abbrev rs45 : Shape := ⟨[(0, .d true (.pr .bool (.sl tI))), (1, .d true (.pr .bool (.sl tI)))], []⟩
noncomputable def F45 (F43 : (SV.denL ps43) → Option (rs43).den) (F70 : (SV.denL ps70) → Option (rs70).den) (F82 : (SV.denL ps82) → Option (rs82).den) (F92 : (SV.denL ps92) → Option (rs92).den) (F93 : (SV.denL ps93) → Option (rs93).den) : (SV.denL ps45) → Option (rs45).den := runFn tb [(43, mkCall ps43 rs43 F43), (70, mkCall ps70 rs70 F70), (82, mkCall ps82 rs82 F82), (92, mkCall ps92 rs92 F92), (93, mkCall ps93 rs93 F93)] [] Tryz.f45 ps45 rs45
/-! 46 bowline/bowlineref01.Write -/
abbrev ps46 : List SV := [.d true (.pr .bool (.sl tI))]
abbrev rs46 : Shape := ⟨[(0, .d false tS)], []⟩
abbrev sh46_7 : Shape := ⟨[(1, .pt 0 0), (3, .rf 1), (4, .d false tI)], [.box 79 [.d false .bool, .d false (.sl tI)], .row (.int .u8) 5]⟩
abbrev w46_7 : List Way := [(some 0, ⟨[(3, .rf 0)], [.row (.int .u8) 5]⟩)]
noncomputable def S46_7 : sh46_7.den → Option (sh46_7.den ⊕ denX w46_7) := stepFn tb [] [] (upTo 34) Tryz.f46 7 sh46_7 w46_7
noncomputable def F46 (g46_7 : sh46_7.den → Option (denX w46_7)) : (SV.denL ps46) → Option (rs46).den := runFn tb [] [(7, lp sh46_7 w46_7 g46_7)] Tryz.f46 ps46 rs46
theorem call46 {g46_7 : sh46_7.den → Option (denX w46_7)} (hg46_7 : Lim (S46_7) g46_7) : CallOK Tryz.prog 46 (mkCall ps46 rs46 (F46 g46_7)) :=
  runFn_ok mixed tabOK (Δ := []) trivial ⟨Tryz.func46, rfl, by kernel_rfl, by kernel_rfl, by kernel_rfl, by kernel_rfl⟩ rfl (loopsAt_zip (cs := [.loop (loopOf Tryz.f46 7)]) (by kernel_rfl) (by kernel_rfl) (by kernel_rfl) ⟨stepLim_ok mixed tabOK (Δ := []) trivial hg46_7 (loopsAt_zip (Λ := []) (cs := []) (by kernel_rfl) (by kernel_rfl) (by kernel_rfl) trivial), trivial⟩)
/-! 14 bowline/bowlineref01.Limits -/
abbrev ps14 : List SV := [.d false tS]
abbrev rs14 : Shape := ⟨[(0, .d false tS), (1, .d false tS), (2, .d false tI)], []⟩
noncomputable def F14 (F16 : (SV.denL ps16) → Option (rs16).den) (F45 : (SV.denL ps45) → Option (rs45).den) (F46 : (SV.denL ps46) → Option (rs46).den) : (SV.denL ps14) → Option (rs14).den := runFn tb [(16, mkCall ps16 rs16 F16), (45, mkCall ps45 rs45 F45), (46, mkCall ps46 rs46 F46)] [] Tryz.f14 ps14 rs14
/-! 3 bowline/bowlinelaw01.WideTypes -/
abbrev ps3 : List SV := [.d false tS]
abbrev rs3 : Shape := ⟨[(0, .d false .bool)], []⟩
noncomputable def F3 (F9 : (SV.denL ps9) → Option (rs9).den) (F10 : (SV.denL ps10) → Option (rs10).den) (F11 : (SV.denL ps11) → Option (rs11).den) (F12 : (SV.denL ps12) → Option (rs12).den) (F13 : (SV.denL ps13) → Option (rs13).den) (F14 : (SV.denL ps14) → Option (rs14).den) (F15 : (SV.denL ps15) → Option (rs15).den) (F16 : (SV.denL ps16) → Option (rs16).den) : (SV.denL ps3) → Option (rs3).den := runFn tb [(9, mkCall ps9 rs9 F9), (10, mkCall ps10 rs10 F10), (11, mkCall ps11 rs11 F11), (12, mkCall ps12 rs12 F12), (13, mkCall ps13 rs13 F13), (14, mkCall ps14 rs14 F14), (15, mkCall ps15 rs15 F15), (16, mkCall ps16 rs16 F16)] [] Tryz.f3 ps3 rs3
/-! 71 bowline/bowlineref01.result -/
abbrev ps71 : List SV := [.d true (.pr .bool (.sl tI))]
abbrev rs71 : Shape := ⟨[(0, .d false tS), (1, .d false tI)], []⟩
noncomputable def F71 (F46 : (SV.denL ps46) → Option (rs46).den) : (SV.denL ps71) → Option (rs71).den := runFn tb [(46, mkCall ps46 rs46 F46)] [] Tryz.f71 ps71 rs71
theorem call71 {F46 : (SV.denL ps46) → Option (rs46).den} (h46 : CallOK Tryz.prog 46 (mkCall ps46 rs46 F46)) : CallOK Tryz.prog 71 (mkCall ps71 rs71 (F71 F46)) :=
  runFn_ok mixed tabOK (Δ := [(46, mkCall ps46 rs46 F46)]) ⟨.inl h46, trivial⟩ ⟨Tryz.func71, rfl, by kernel_rfl, by kernel_rfl, by kernel_rfl, by kernel_rfl⟩ rfl (loopsAt_zip (Λ := []) (cs := []) (by kernel_rfl) (by kernel_rfl) (by kernel_rfl) trivial)
/-! 67 bowline/bowlineref01.digitOf -/
abbrev ps67 : List SV := [.d false (.int .u8), .d false tI]
abbrev rs67 : Shape := ⟨[(0, .d false tI)], []⟩
noncomputable def F67 (F72 : (SV.denL ps72) → Option (rs72).den) : (SV.denL ps67) → Option (rs67).den := runFn tb [(72, mkCall ps72 rs72 F72)] [] Tryz.f67 ps67 rs67
theorem call67 {F72 : (SV.denL ps72) → Option (rs72).den} (h72 : CallOK Tryz.prog 72 (mkCall ps72 rs72 F72)) : CallOK Tryz.prog 67 (mkCall ps67 rs67 (F67 F72)) :=
  runFn_ok mixed tabOK (Δ := [(72, mkCall ps72 rs72 F72)]) ⟨.inl h72, trivial⟩ ⟨Tryz.func67, rfl, by kernel_rfl, by kernel_rfl, by kernel_rfl, by kernel_rfl⟩ rfl (loopsAt_zip (Λ := []) (cs := []) (by kernel_rfl) (by kernel_rfl) (by kernel_rfl) trivial)
/-! 26 bowline/bowlineref01.Literal -/
abbrev ps26 : List SV := [.d false tS]
abbrev rs26 : Shape := ⟨[(0, .d false tS), (1, .d false tI)], []⟩
abbrev sh26_17 : Shape := ⟨[(0, .d false tS), (4, .d false tI), (5, .pt 0 0), (6, .d false tI)], [.box 79 [.d false .bool, .d false (.sl tI)]]⟩
abbrev w26_17 : List Way := [(none, ⟨[(2, .d false tS), (3, .d false tI)], []⟩), (some 1, ⟨[(0, .d false tS), (5, .pt 0 0)], [.box 79 [.d false .bool, .d false (.sl tI)]]⟩)]
noncomputable def S26_17 (F67 : (SV.denL ps67) → Option (rs67).den) (F68 : (SV.denL ps68) → Option (rs68).den) (F69 : (SV.denL ps69) → Option (rs69).den) (F70 : (SV.denL ps70) → Option (rs70).den) : sh26_17.den → Option (sh26_17.den ⊕ denX w26_17) := stepFn tb [(67, mkCall ps67 rs67 F67), (68, mkCall ps68 rs68 F68), (69, mkCall ps69 rs69 F69), (70, mkCall ps70 rs70 F70)] [] (upTo 78) Tryz.f26 17 sh26_17 w26_17
noncomputable def F26 (F71 : (SV.denL ps71) → Option (rs71).den) (g26_17 : sh26_17.den → Option (denX w26_17)) : (SV.denL ps26) → Option (rs26).den := runFn tb [(71, mkCall ps71 rs71 F71)] [(17, lp sh26_17 w26_17 g26_17)] Tryz.f26 ps26 rs26
theorem call26 {F67 : (SV.denL ps67) → Option (rs67).den} {F68 : (SV.denL ps68) → Option (rs68).den} {F69 : (SV.denL ps69) → Option (rs69).den} {F70 : (SV.denL ps70) → Option (rs70).den} {F71 : (SV.denL ps71) → Option (rs71).den} {g26_17 : sh26_17.den → Option (denX w26_17)} (h67 : CallOK Tryz.prog 67 (mkCall ps67 rs67 F67)) (h68 : CallOK Tryz.prog 68 (mkCall ps68 rs68 F68)) (h69 : CallOK Tryz.prog 69 (mkCall ps69 rs69 F69)) (h70 : CallOK Tryz.prog 70 (mkCall ps70 rs70 F70)) (h71 : CallOK Tryz.prog 71 (mkCall ps71 rs71 F71)) (hg26_17 : Lim (S26_17 F67 F68 F69 F70) g26_17) : CallOK Tryz.prog 26 (mkCall ps26 rs26 (F26 F71 g26_17)) :=
  runFn_ok mixed tabOK (Δ := [(71, mkCall ps71 rs71 F71)]) ⟨.inl h71, trivial⟩ ⟨Tryz.func26, rfl, by kernel_rfl, by kernel_rfl, by kernel_rfl, by kernel_rfl⟩ rfl (loopsAt_zip (cs := [.loop (loopOf Tryz.f26 17)]) (by kernel_rfl) (by kernel_rfl) (by kernel_rfl) ⟨stepLim_ok mixed tabOK (Δ := [(67, mkCall ps67 rs67 F67), (68, mkCall ps68 rs68 F68), (69, mkCall ps69 rs69 F69), (70, mkCall ps70 rs70 F70)]) ⟨.inl h67, .inl h68, .inl h69, .inl h70, trivial⟩ hg26_17 (loopsAt_zip (Λ := []) (cs := []) (by kernel_rfl) (by kernel_rfl) (by kernel_rfl) trivial), trivial⟩)
/-! 5 bowline/bowlinelaw01.WideLiterals -/
abbrev ps5 : List SV := [.d false tS]
abbrev rs5 : Shape := ⟨[(0, .d false .bool)], []⟩
noncomputable def F5 (F9 : (SV.denL ps9) → Option (rs9).den) (F10 : (SV.denL ps10) → Option (rs10).den) (F25 : (SV.denL ps25) → Option (rs25).den) (F26 : (SV.denL ps26) → Option (rs26).den) : (SV.denL ps5) → Option (rs5).den := runFn tb [(9, mkCall ps9 rs9 F9), (10, mkCall ps10 rs10 F10), (25, mkCall ps25 rs25 F25), (26, mkCall ps26 rs26 F26)] [] Tryz.f5 ps5 rs5
theorem call5 {F10 : (SV.denL ps10) → Option (rs10).den} {F25 : (SV.denL ps25) → Option (rs25).den} {F26 : (SV.denL ps26) → Option (rs26).den} {F9 : (SV.denL ps9) → Option (rs9).den} (h10 : CallOK Tryz.prog 10 (mkCall ps10 rs10 F10)) (h25 : CallOK Tryz.prog 25 (mkCall ps25 rs25 F25)) (h26 : CallOK Tryz.prog 26 (mkCall ps26 rs26 F26)) (h9 : CallOK Tryz.prog 9 (mkCall ps9 rs9 F9)) : CallOK Tryz.prog 5 (mkCall ps5 rs5 (F5 F9 F10 F25 F26)) :=
  runFn_ok mixed tabOK (Δ := [(9, mkCall ps9 rs9 F9), (10, mkCall ps10 rs10 F10), (25, mkCall ps25 rs25 F25), (26, mkCall ps26 rs26 F26)]) ⟨.inl h9, .inl h10, .inl h25, .inl h26, trivial⟩ ⟨Tryz.func5, rfl, by kernel_rfl, by kernel_rfl, by kernel_rfl, by kernel_rfl⟩ rfl (loopsAt_zip (Λ := []) (cs := []) (by kernel_rfl) (by kernel_rfl) (by kernel_rfl) trivial)
end Go.Proofs.Rf
/- The functions, evaluated. -/
set_option linter.unusedVariables false
namespace Go.Proofs.Rf
open Go Go.RowKit
theorem S9_2_eq (t5 : List (List UInt8)) (t6 : Int) (t7 : Int) : S9_2 ((t5, t6, t7, ()), ()) = (
  if decide (t7 < t6) = true then
    if 0 ≤ t7 then
      if t7 < (↑t5.length : Int) then
        if decide ((↑(List.length (t5.getD t7.toNat [])) : Int) > 600) = true then
          some (Sum.inr (Sum.inl ((false, ()), ())))
        else some (Sum.inl ((t5, t6, IntKind.i64.wrap (t7 + 1), ()), ()))
      else none
    else none
  else some (Sum.inr (Sum.inr ((), ()))) : Option (sh9_2.den ⊕ denX w9_2)) := by kernel_rfl
theorem F9_eq (g9_2 : sh9_2.den → Option (denX w9_2)) (l0 : List (List UInt8)) : F9 g9_2 (l0, ()) = (
  (g9_2 ((l0, (↑l0.length : Int), 0, ()), ())).bind fun y =>
    Sum.elim (fun y => some ((y.1.1, ()), ())) (fun z => some ((true, ()), ())) y : Option rs9.den) := by kernel_rfl
theorem F100_eq (s0 : List UInt8) (prefix1 : List UInt8) : F100 (s0, prefix1, ()) = (
  if decide ((↑s0.length : Int) ≥ (↑prefix1.length : Int)) = true then
    if (↑prefix1.length : Int) ≤ (↑s0.length : Int) then
      some ((List.take (↑prefix1.length : Int).toNat s0 == prefix1, ()), ())
    else none
  else some ((false, ()), ()) : Option rs100.den) := by kernel_rfl
theorem S101_1_eq (l0 : List Int) : S101_1 ((l0, ()), ()) = (
  if decide ((↑l0.length : Int) > 0) = true then
    if 0 ≤ IntKind.i64.wrap ((↑l0.length : Int) - 1) then
      if IntKind.i64.wrap ((↑l0.length : Int) - 1) < (↑l0.length : Int) then
        if (l0.getD (IntKind.i64.wrap ((↑l0.length : Int) - 1)).toNat 0 == 0) = true then
          if 0 ≤ IntKind.i64.wrap ((↑l0.length : Int) - 1) then
            if IntKind.i64.wrap ((↑l0.length : Int) - 1) ≤ (↑l0.length : Int) then
              some (Sum.inl ((List.take (IntKind.i64.wrap ((↑l0.length : Int) - 1)).toNat l0, ()), ()))
            else none
          else none
        else some (Sum.inr ((l0, ()), ()))
      else none
    else none
  else some (Sum.inr ((l0, ()), ())) : Option (sh101_1.den ⊕ denX w101_1)) := by kernel_rfl
theorem F101_eq (g101_1 : sh101_1.den → Option (denX w101_1)) (l0 : List Int) : F101 g101_1 (l0, ()) = (
  (g101_1 ((l0, ()), ())).bind fun y => some ((y.1.1, ()), ()) : Option rs101.den) := by kernel_rfl
theorem F200_eq (c0 : Int) : F200 (c0, ()) = (
  if decide (c0 ≥ 48) = true then
    if decide (c0 ≤ 57) = true then some ((IntKind.i64.wrap (IntKind.i32.wrap (c0 - 48)), ()), ())
    else some ((-1, ()), ())
  else some ((-1, ()), ()) : Option rs200.den) := by kernel_rfl
theorem F199_eq (F200 : (SV.denL ps200) → Option (rs200).den) (c0 : Int) : F199 F200 (c0, ()) = (
  if decide (c0 ≥ 97) = true then
    if decide (c0 ≤ 102) = true then
      some ((IntKind.i64.wrap (IntKind.i64.wrap (IntKind.i32.wrap (c0 - 97)) + 10), ()), ())
    else
      if decide (c0 ≥ 65) = true then
        if decide (c0 ≤ 70) = true then
          some ((IntKind.i64.wrap (IntKind.i64.wrap (IntKind.i32.wrap (c0 - 65)) + 10), ()), ())
        else (F200 (c0, ())).bind fun y => some ((y.1.1, ()), ())
      else (F200 (c0, ())).bind fun y => some ((y.1.1, ()), ())
  else
    if decide (c0 ≥ 65) = true then
      if decide (c0 ≤ 70) = true then
        some ((IntKind.i64.wrap (IntKind.i64.wrap (IntKind.i32.wrap (c0 - 65)) + 10), ()), ())
      else (F200 (c0, ())).bind fun y => some ((y.1.1, ()), ())
    else (F200 (c0, ())).bind fun y => some ((y.1.1, ()), ()) : Option rs199.den) := by kernel_rfl
theorem F64_eq (g64_4 : sh64_4.den → Option (denX w64_4)) (r0_0 : List UInt8) (r0_1 : Int) (r0_2 : Int) (s1 : List UInt8) : F64 g64_4 ((r0_0, r0_1, r0_2), s1, ()) = (
  (g64_4 ((s1, (), (), 95, (), ()), (r0_0, r0_1, r0_2, ()), [], (s1, 0), ())).bind fun y =>
    Sum.elim (fun y => some ((y.1.1, y.1.2.1, ()), ()))
      (fun z =>
        if (!z.1.2.2.2.1 == 95) = true then
          if (!z.2.1.1 == []) = true then some ((z.2.2.1, true, ()), ())
          else
            if (z.1.1 == [(48 : UInt8)]) = true then some ((z.2.2.1, true, ()), ())
            else
              if 0 < (↑(List.length z.1.1) : Int) then
                some ((z.2.2.1, !(↑(List.getD z.1.1 0 (0 : UInt8)).toNat : Int) == 48, ()), ())
              else none
        else some ((z.2.2.1, false, ()), ()))
      y : Option rs64.den) := by kernel_rfl
theorem F103_eq (F104 : (SV.denL ps104) → Option (rs104).den) (F105 : (SV.denL ps105) → Option (rs105).den) (limb0 : Int) : F103 F104 F105 (limb0, ()) = (
  (F104 (IntKind.i64.wrap limb0, ())).bind fun y =>
    (F105 ([(48 : UInt8)], IntKind.i64.wrap (9 - (↑(List.length y.1.1) : Int)), ())).bind
      fun y_1 => if List.length y_1.1.1 + List.length y.1.1 ≤ 4294967296 then some ((y_1.1.1 ++ y.1.1, ()), ()) else none : Option rs103.den) := by kernel_rfl
theorem S102_3_eq (F103 : (SV.denL ps103) → Option (rs103).den) (l0 : List Int) (f1 : Int) (t11 : Int) (t12 : Int) (rw0 : List (List UInt8)) : S102_3 F103 ((l0, f1, (), t11, t12, ()), (rw0, ())) = (
  if decide (t12 < t11) = true then
    if 0 ≤ t12 then
      if t12 < (↑l0.length : Int) then
        if f1 = (↑30 : Int) then none
        else
          if f1 = (↑31 : Int) then none
          else
            if f1 = (↑32 : Int) then none
            else
              if f1 = (↑33 : Int) then none
              else
                if f1 = (↑34 : Int) then none
                else
                  if f1 = (↑35 : Int) then none
                  else
                    if f1 = (↑36 : Int) then none
                    else
                      if f1 = (↑37 : Int) then none
                      else
                        if f1 = (↑75 : Int) then none
                        else
                          if f1 = (↑76 : Int) then none
                          else
                            if f1 = (↑78 : Int) then none
                            else
                              if f1 = (↑80 : Int) then none
                              else
                                if f1 = (↑81 : Int) then none
                                else
                                  if f1 = (↑104 : Int) then
                                    (F103 (l0.getD t12.toNat 0, ())).bind fun y =>
                                      if 0 ≤ t12 then
                                        if t12 < (↑rw0.length : Int) then
                                          some
                                            (Sum.inl
                                              ((l0, f1, (), t11, IntKind.i64.wrap (t12 + 1), ()), rw0.set t12.toNat y.1.1,
                                                ()))
                                        else none
                                      else none
                                  else if f1 = (↑200 : Int) then none else if f1 = (↑201 : Int) then none else none
      else none
    else none
  else some (Sum.inr (((), ()), rw0, ())) : Option (sh102_3.den ⊕ denX w102_3)) := by kernel_rfl
theorem F102_eq (g102_3 : sh102_3.den → Option (denX w102_3)) (l0 : List Int) (f1 : Int) : F102 g102_3 (l0, f1, ()) = (
  if (↑l0.length : Int) ≤ (↑l0.length : Int) then
    if (↑l0.length : Int) ≤ ((4294967296 : Nat) : Int) then
      (g102_3 ((l0, f1, (), (↑l0.length : Int), 0, ()), List.replicate (↑l0.length : Int).toNat [], ())).bind fun y =>
        some (((), ()), y.2.1, ())
    else none
  else none : Option rs102.den) := by kernel_rfl
theorem S106_1_eq (i2 : Int) (j3 : Int) (rw0 : List (List UInt8)) : S106_1 (((), i2, j3, ()), (rw0, ())) = (
  if decide (i2 < j3) = true then
    if 0 ≤ j3 then
      if j3 < (↑rw0.length : Int) then
        if 0 ≤ i2 then
          if i2 < (↑rw0.length : Int) then
            if 0 ≤ i2 then
              if i2 < (↑rw0.length : Int) then
                if 0 ≤ j3 then
                  if j3 < (↑(rw0.set i2.toNat (rw0.getD j3.toNat [])).length : Int) then
                    some
                      (Sum.inl
                        (((), IntKind.i64.wrap (i2 + 1), IntKind.i64.wrap (j3 - 1), ()),
                          (rw0.set i2.toNat (rw0.getD j3.toNat [])).set j3.toNat (rw0.getD i2.toNat []), ()))
                  else none
                else none
              else none
            else none
          else none
        else none
      else none
    else none
  else some (Sum.inr (((), ()), rw0, ())) : Option (sh106_1.den ⊕ denX w106_1)) := by kernel_rfl
theorem F106_eq (g106_1 : sh106_1.den → Option (denX w106_1)) (rw0 : List (List UInt8)) : F106 g106_1 (((), ()), (rw0, ())) = (
  ((g106_1 (((), 0, IntKind.i64.wrap ((↑rw0.length : Int) - 1), ()), rw0, ())).bind fun y =>
        some (((), ()), y.2.1, ())).bind
    fun z => some z : Option rs106.den) := by kernel_rfl
theorem S136_1_eq (s0 : List UInt8) (c1 : Int) : S136_1 ((s0, c1, ()), ()) = (
  if decide ((↑s0.length : Int) > 0) = true then
    if 0 < (↑s0.length : Int) then
      if ((↑(s0.getD 0 (0 : UInt8)).toNat : Int) == c1) = true then
        if 1 ≤ (↑s0.length : Int) then
          if (↑s0.length : Int) ≤ (↑s0.length : Int) then some (Sum.inl ((List.drop 1 s0, c1, ()), ())) else none
        else none
      else some (Sum.inr ((s0, ()), ()))
    else none
  else some (Sum.inr ((s0, ()), ())) : Option (sh136_1.den ⊕ denX w136_1)) := by kernel_rfl
theorem F136_eq (g136_1 : sh136_1.den → Option (denX w136_1)) (s0 : List UInt8) (c1 : Int) : F136 g136_1 (s0, c1, ()) = (
  (g136_1 ((s0, c1, ()), ())).bind fun y => some ((y.1.1, ()), ()) : Option rs136.den) := by kernel_rfl
theorem F107_eq (F136 : (SV.denL ps136) → Option (rs136).den) (s0 : List UInt8) (cutset1 : List UInt8) : F107 F136 (s0, cutset1, ()) = (
  if (s0 == []) = true then some ((s0, ()), ())
  else
    if (cutset1 == []) = true then some ((s0, ()), ())
    else
      if ((↑cutset1.length : Int) == 1) = true then
        if 0 < (↑cutset1.length : Int) then
          if decide ((↑(cutset1.getD 0 (0 : UInt8)).toNat : Int) < 128) = true then
            if 0 < (↑cutset1.length : Int) then
              (F136 (s0, (↑(cutset1.getD 0 (0 : UInt8)).toNat : Int), ())).bind fun y =>
                some ((y.1.1, ()), ())
            else none
          else none
        else none
      else none : Option rs107.den) := by kernel_rfl
theorem F66_eq (F102 : (SV.denL ps102) → Option (rs102).den) (F106 : (psh106.den) → Option (rs106).den) (F107 : (SV.denL ps107) → Option (rs107).den) (F108 : (SV.denL ps108) → Option (rs108).den) (n0_0 : Bool) (n0_1 : List Int) : F66 F102 F106 F107 F108 ((n0_0, n0_1), ()) = (
  if ((↑n0_1.length : Int) == 0) = true then some (([(48 : UInt8)], 0, ()), ())
  else
    (F102 (n0_1, (↑104 : Int), ())).bind fun y =>
      (F106 (((), ()), y.2.1, ())).bind fun z =>
        (F108 (z.2.1, [], ())).bind fun y =>
          (F107 (y.1.1, [(48 : UInt8)], ())).bind fun y =>
            if decide ((↑(List.length y.1.1) : Int) > 100) = true then some (([], 4, ()), ())
            else
              if n0_0 = true then
                if 1 + List.length y.1.1 ≤ 4294967296 then
                  some (([(45 : UInt8)] ++ y.1.1, 0, ()), ())
                else none
              else some ((y.1.1, 0, ()), ()) : Option rs66.den) := by kernel_rfl
theorem F63_eq (F100 : (SV.denL ps100) → Option (rs100).den) (s0 : List UInt8) (prefix1 : List UInt8) : F63 F100 (s0, prefix1, ()) = (
  (F100 (s0, prefix1, ())).bind fun y => some ((y.1.1, ()), ()) : Option rs63.den) := by kernel_rfl
theorem S65_4_eq (factor1 : Int) (rest8 : Int) (t19 : List Int) (t20 : Int) (t21 : Int) (rw0 : List Int) : S65_4 ((factor1, (), rest8, t19, t20, t21, ()), (rw0, ())) = (
  if decide (t21 < t20) = true then
    if 0 ≤ t21 then
      if t21 < (↑t19.length : Int) then
        if 0 ≤ t21 then
          if t21 < (↑rw0.length : Int) then
            some
              (Sum.inl
                ((factor1, (),
                    IntKind.u64.wrap
                      ((IntKind.u64.wrap
                            (rest8 +
                              IntKind.u64.wrap (IntKind.u64.wrap (t19.getD t21.toNat 0) * IntKind.u64.wrap factor1))).tdiv
                        1000000000),
                    t19, t20, IntKind.i64.wrap (t21 + 1), ()),
                  rw0.set t21.toNat
                    (IntKind.u32.wrap
                      ((IntKind.u64.wrap
                            (rest8 +
                              IntKind.u64.wrap (IntKind.u64.wrap (t19.getD t21.toNat 0) * IntKind.u64.wrap factor1))).tmod
                        1000000000)),
                  ()))
          else none
        else none
      else none
    else none
  else some (Sum.inr (((), rest8, ()), rw0, ())) : Option (sh65_4.den ⊕ denX w65_4)) := by kernel_rfl
theorem F65_eq (F101 : (SV.denL ps101) → Option (rs101).den) (g65_4 : sh65_4.den → Option (denX w65_4)) (l0 : List Int) (factor1 : Int) (carry2 : Int) : F65 F101 g65_4 (l0, factor1, carry2, ()) = (
  if (↑l0.length : Int) ≤ IntKind.i64.wrap ((↑l0.length : Int) + 1) then
    if IntKind.i64.wrap ((↑l0.length : Int) + 1) ≤ ((4294967296 : Nat) : Int) then
      (g65_4
            ((factor1, (), IntKind.u64.wrap carry2, l0, (↑l0.length : Int), 0, ()),
              List.replicate (↑l0.length : Int).toNat 0, ())).bind
        fun y =>
        if List.length y.2.1 + [IntKind.u32.wrap y.1.2.1].length ≤ 4294967296 then
          (F101 (y.2.1 ++ [IntKind.u32.wrap y.1.2.1], ())).bind fun y => some ((y.1.1, ()), ())
        else none
    else none
  else none : Option rs65.den) := by kernel_rfl
theorem S25_15_eq (F65 : (SV.denL ps65) → Option (rs65).den) (t38 : List Int) (t39 : Int) (t40 : Int) (b0_0 : List UInt8) (b0_1 : Int) (b0_2 : Int) (b1_0 : Bool) (b1_1 : List Int) : S25_15 F65 (((), (), t38, t39, t40, ()), ((b0_0, b0_1, b0_2, ()), (b1_0, b1_1, ()), ())) = (
  if decide (t40 < t39) = true then
    if 0 ≤ t40 then
      if t40 < (↑t38.length : Int) then
        (F65 (b1_1, b0_1, t38.getD t40.toNat 0, ())).bind fun y =>
          some
            (Sum.inl (((), (), t38, t39, IntKind.i64.wrap (t40 + 1), ()), (b0_0, b0_1, b0_2, ()), (b1_0, y.1.1, ()), ()))
      else none
    else none
  else some (Sum.inr (((), ()), (b1_0, b1_1, ()), ())) : Option (sh25_15.den ⊕ denX w25_15)) := by kernel_rfl
theorem F25_eq (F64 : (SV.denL ps64) → Option (rs64).den) (F66 : (SV.denL ps66) → Option (rs66).den) (g25_5 : sh25_5.den → Option (denX w25_5)) (g25_15 : sh25_15.den → Option (denX w25_15)) (s0 : List UInt8) : F25 F64 F66 g25_5 g25_15 (s0, ()) = (
  if decide ((↑s0.length : Int) > 500) = true then some (([], 20, ()), ())
  else
    (g25_5
          ((s0, (),
              (([(48 : UInt8), (120 : UInt8)], 16, (↑200 : Int)),
                ([(48 : UInt8), (111 : UInt8)], 8, (↑201 : Int)),
                ([(48 : UInt8), (98 : UInt8)], 2, (↑201 : Int)), [], 10,
                (↑201 : Int)),
              0, ()),
            ([], 0, 0, ()), ())).bind
      fun y =>
      if (↑(List.length y.2.1.1) : Int) ≤ (↑(List.length y.1.1) : Int) then
        if (↑(List.length y.1.1) : Int) ≤ (↑(List.length y.1.1) : Int) then
          (F64 ((y.2.1.1, y.2.1.2.1, y.2.1.2.2.1), List.drop (↑(List.length y.2.1.1) : Int).toNat y.1.1, ())).bind
            fun y_1 =>
            if (!y_1.1.2.1) = true then some (([], 19, ()), ())
            else
              (g25_15
                    (((), (), y_1.1.1, (↑(List.length y_1.1.1) : Int), 0, ()), (y.2.1.1, y.2.1.2.1, y.2.1.2.2.1, ()),
                      (false, [], ()), ())).bind
                fun y => (F66 ((y.2.1.1, y.2.1.2.1), ())).bind fun y => some ((y.1.1, y.1.2.1, ()), ())
        else none
      else none : Option rs25.den) := by kernel_rfl
theorem F72_eq (c0 : Int) : F72 (c0, ()) = (
  if decide (c0 ≥ 48) = true then some ((decide (c0 ≤ 57), ()), ()) else some ((false, ()), ()) : Option rs72.den) := by kernel_rfl
theorem S96_2_eq (n3 : Int) (b0_0 : Bool) (b0_1 : List Int) (b1_0 : Bool) (b1_1 : List Int) : S96_2 (((), (), n3, ()), ((b0_0, b0_1, ()), (b1_0, b1_1, ()), ())) = (
  if decide (n3 > 0) = true then
    if 0 ≤ IntKind.i64.wrap (n3 - 1) then
      if IntKind.i64.wrap (n3 - 1) < (↑b0_1.length : Int) then
        if (b0_1.getD (IntKind.i64.wrap (n3 - 1)).toNat 0 == 0) = true then
          some (Sum.inl (((), (), IntKind.i64.wrap (n3 - 1), ()), (b0_0, b0_1, ()), (b1_0, b1_1, ()), ()))
        else some (Sum.inr (((), (), n3, ()), (b0_0, b0_1, ()), (b1_0, b1_1, ()), ()))
      else none
    else none
  else some (Sum.inr (((), (), n3, ()), (b0_0, b0_1, ()), (b1_0, b1_1, ()), ())) : Option (sh96_2.den ⊕ denX w96_2)) := by kernel_rfl
theorem F96_eq (g96_2 : sh96_2.den → Option (denX w96_2)) (x0_0 : Bool) (x0_1 : List Int) : F96 g96_2 ((x0_0, x0_1), ()) = (
  (g96_2 (((), (), (↑x0_1.length : Int), ()), (x0_0, x0_1, ()), (false, [], ()), ())).bind fun y =>
    if 0 ≤ y.1.2.2.1 then
      if y.1.2.2.1 ≤ (↑(List.length y.2.1.2.1) : Int) then
        if (y.1.2.2.1 == 0) = true then some (((false, List.take (Int.toNat y.1.2.2.1) y.2.1.2.1), ()), ())
        else some (((y.2.1.1, List.take (Int.toNat y.1.2.2.1) y.2.1.2.1), ()), ())
      else none
    else none : Option rs96.den) := by kernel_rfl
theorem S52_6_eq (s0 : List UInt8) (i4 : Int) (b0_0 : Bool) (b0_1 : List Int) (b1_0 : Bool) (rw2 : List Int) : S52_6 ((s0, (), (), i4, ()), ((b0_0, b0_1, ()), (b1_0, (), ()), rw2, ())) = (
  if decide (i4 ≥ 0) = true then
    if 0 ≤ i4 then
      if i4 < (↑s0.length : Int) then
        if
            rw2.length +
                [IntKind.i64.wrap
                      (IntKind.u8.wrap
                        ((↑(s0.getD i4.toNat (0 : UInt8)).toNat : Int) - 48))].length ≤
              4294967296 then
          some
            (Sum.inl
              ((s0, (), (), IntKind.i64.wrap (i4 - 1), ()), (b0_0, b0_1, ()), (b1_0, (), ()),
                rw2 ++
                  [IntKind.i64.wrap
                      (IntKind.u8.wrap ((↑(s0.getD i4.toNat (0 : UInt8)).toNat : Int) - 48))],
                ()))
        else none
      else none
    else none
  else some (Sum.inr (((), (), ()), (b0_0, b0_1, ()), (b1_0, (), ()), rw2, ())) : Option (sh52_6.den ⊕ denX w52_6)) := by kernel_rfl
theorem F52_eq (F96 : (SV.denL ps96) → Option (rs96).den) (g52_6 : sh52_6.den → Option (denX w52_6)) (s0 : List UInt8) : F52 F96 g52_6 (s0, ()) = (
  if (!s0 == []) = true then
    if 0 < (↑s0.length : Int) then
      if ((↑(s0.getD 0 (0 : UInt8)).toNat : Int) == 45) = true then
        if 1 ≤ (↑s0.length : Int) then
          if (↑s0.length : Int) ≤ (↑s0.length : Int) then
            (g52_6
                  ((List.drop 1 s0, (), (), IntKind.i64.wrap ((↑(List.drop 1 s0).length : Int) - 1), ()), (false, [], ()),
                    (true, (), ()), [], ())).bind
              fun y => (F96 ((y.2.2.1.1, y.2.2.2.1), ())).bind fun y => some (((y.1.1.1, y.1.1.2), ()), ())
          else none
        else none
      else
        (g52_6
              ((s0, (), (), IntKind.i64.wrap ((↑s0.length : Int) - 1), ()), (false, [], ()), (false, (), ()), [],
                ())).bind
          fun y => (F96 ((y.2.2.1.1, y.2.2.2.1), ())).bind fun y => some (((y.1.1.1, y.1.1.2), ()), ())
    else none
  else
    (g52_6 ((s0, (), (), IntKind.i64.wrap ((↑s0.length : Int) - 1), ()), (false, [], ()), (false, (), ()), [], ())).bind
      fun y => (F96 ((y.2.2.1.1, y.2.2.2.1), ())).bind fun y => some (((y.1.1.1, y.1.1.2), ()), ()) : Option rs52.den) := by kernel_rfl
theorem F140_eq (R140 : (SV.denL ps140) → Option (rs140).den) (n0 : Int) (add1 : Int) : F140 R140 (n0, add1, ()) = (
  if decide (n0 < 10) = true then
    if decide (IntKind.i64.wrap (n0 + add1) < 10) = true then
      some ((encR (IntKind.i32.wrap (IntKind.i64.wrap (IntKind.i64.wrap (48 + n0) + add1))), ()), ())
    else
      (R140 (IntKind.i64.wrap (n0.tdiv 10), IntKind.i64.wrap ((IntKind.i64.wrap (n0.tmod 10 + add1)).tdiv 10), ())).bind
        fun y =>
        if
            List.length y.1.1 +
                (encR
                    (IntKind.i32.wrap (IntKind.i64.wrap (48 + (IntKind.i64.wrap (n0.tmod 10 + add1)).tmod 10)))).length ≤
              4294967296 then
          some
            ((y.1.1 ++ encR (IntKind.i32.wrap (IntKind.i64.wrap (48 + (IntKind.i64.wrap (n0.tmod 10 + add1)).tmod 10))),
                ()),
              ())
        else none
  else
    (R140 (IntKind.i64.wrap (n0.tdiv 10), IntKind.i64.wrap ((IntKind.i64.wrap (n0.tmod 10 + add1)).tdiv 10), ())).bind
      fun y =>
      if
          List.length y.1.1 +
              (encR (IntKind.i32.wrap (IntKind.i64.wrap (48 + (IntKind.i64.wrap (n0.tmod 10 + add1)).tmod 10)))).length ≤
            4294967296 then
        some
          ((y.1.1 ++ encR (IntKind.i32.wrap (IntKind.i64.wrap (48 + (IntKind.i64.wrap (n0.tmod 10 + add1)).tmod 10))),
              ()),
            ())
      else none : Option rs140.den) := by kernel_rfl
theorem F113_eq (F140 : (SV.denL ps140) → Option (rs140).den) (n0 : Int) : F113 F140 (n0, ()) = (
  if decide (n0 < 0) = true then
    (F140 (IntKind.i64.wrap (0 - IntKind.i64.wrap (n0 + 1)), 1, ())).bind fun y =>
      if 1 + List.length y.1.1 ≤ 4294967296 then some (([(45 : UInt8)] ++ y.1.1, ()), ())
      else none
  else (F140 (n0, 0, ())).bind fun y => some ((y.1.1, ()), ()) : Option rs113.den) := by kernel_rfl
theorem F70_eq (F52 : (SV.denL ps52) → Option (rs52).den) (F113 : (SV.denL ps113) → Option (rs113).den) (n0 : Int) : F70 F52 F113 (n0, ()) = (
  (F113 (n0, ())).bind fun y => (F52 (y.1.1, ())).bind fun y => some (((y.1.1.1, y.1.1.2), ()), ()) : Option rs70.den) := by kernel_rfl
theorem F112_eq (l0 : List Int) (i1 : Int) : F112 (l0, i1, ()) = (
  if decide (i1 < (↑l0.length : Int)) = true then
    if 0 ≤ i1 then if i1 < (↑l0.length : Int) then some ((l0.getD i1.toNat 0, ()), ()) else none else none
  else some ((0, ()), ()) : Option rs112.den) := by kernel_rfl
theorem S109_4_eq (F112 : (SV.denL ps112) → Option (rs112).den) (a0 : List Int) (b1 : List Int) (carry6 : Int) (i7 : Int) (rw0 : List Int) : S109_4 F112 ((a0, b1, (), carry6, i7, ()), (rw0, ())) = (
  if decide (i7 < (↑a0.length : Int)) = true then
    (F112 (a0, i7, ())).bind fun y =>
      (F112 (b1, i7, ())).bind fun y_1 =>
        if
            rw0.length + [(IntKind.i64.wrap (IntKind.i64.wrap (y.1.1 + y_1.1.1) + carry6)).tmod 10].length ≤
              4294967296 then
          some
            (Sum.inl
              ((a0, b1, (), IntKind.i64.wrap ((IntKind.i64.wrap (IntKind.i64.wrap (y.1.1 + y_1.1.1) + carry6)).tdiv 10),
                  IntKind.i64.wrap (i7 + 1), ()),
                rw0 ++ [(IntKind.i64.wrap (IntKind.i64.wrap (y.1.1 + y_1.1.1) + carry6)).tmod 10], ()))
        else none
  else
    if decide (i7 < (↑b1.length : Int)) = true then
      (F112 (a0, i7, ())).bind fun y =>
        (F112 (b1, i7, ())).bind fun y_1 =>
          if
              rw0.length + [(IntKind.i64.wrap (IntKind.i64.wrap (y.1.1 + y_1.1.1) + carry6)).tmod 10].length ≤
                4294967296 then
            some
              (Sum.inl
                ((a0, b1, (), IntKind.i64.wrap ((IntKind.i64.wrap (IntKind.i64.wrap (y.1.1 + y_1.1.1) + carry6)).tdiv 10),
                    IntKind.i64.wrap (i7 + 1), ()),
                  rw0 ++ [(IntKind.i64.wrap (IntKind.i64.wrap (y.1.1 + y_1.1.1) + carry6)).tmod 10], ()))
          else none
    else
      if decide (carry6 > 0) = true then
        (F112 (a0, i7, ())).bind fun y =>
          (F112 (b1, i7, ())).bind fun y_1 =>
            if
                rw0.length + [(IntKind.i64.wrap (IntKind.i64.wrap (y.1.1 + y_1.1.1) + carry6)).tmod 10].length ≤
                  4294967296 then
              some
                (Sum.inl
                  ((a0, b1, (),
                      IntKind.i64.wrap ((IntKind.i64.wrap (IntKind.i64.wrap (y.1.1 + y_1.1.1) + carry6)).tdiv 10),
                      IntKind.i64.wrap (i7 + 1), ()),
                    rw0 ++ [(IntKind.i64.wrap (IntKind.i64.wrap (y.1.1 + y_1.1.1) + carry6)).tmod 10], ()))
            else none
      else some (Sum.inr (((), ()), rw0, ())) : Option (sh109_4.den ⊕ denX w109_4)) := by kernel_rfl
theorem F109_eq (g109_4 : sh109_4.den → Option (denX w109_4)) (a0 : List Int) (b1 : List Int) : F109 g109_4 (a0, b1, ()) = (
  (g109_4 ((a0, b1, (), 0, 0, ()), [], ())).bind fun y => some ((y.2.1, ()), ()) : Option rs109.den) := by kernel_rfl
theorem S110_2_eq (F112 : (SV.denL ps112) → Option (rs112).den) (a0 : List Int) (b1 : List Int) (i5 : Int) : S110_2 F112 ((a0, b1, i5, ()), ()) = (
  if decide (i5 ≥ 0) = true then
    (F112 (a0, i5, ())).bind fun y =>
      (F112 (b1, i5, ())).bind fun y_1 =>
        if (!y.1.1 == y_1.1.1) = true then
          (F112 (a0, i5, ())).bind fun y =>
            (F112 (b1, i5, ())).bind fun y_2 =>
              if decide (y.1.1 < y_2.1.1) = true then some (Sum.inr (Sum.inl ((-1, ()), ())))
              else some (Sum.inr (Sum.inl ((1, ()), ())))
        else some (Sum.inl ((a0, b1, IntKind.i64.wrap (i5 - 1), ()), ()))
  else some (Sum.inr (Sum.inr ((), ()))) : Option (sh110_2.den ⊕ denX w110_2)) := by kernel_rfl
theorem F110_eq (g110_2 : sh110_2.den → Option (denX w110_2)) (a0 : List Int) (b1 : List Int) : F110 g110_2 (a0, b1, ()) = (
  (g110_2 ((a0, b1, IntKind.i64.wrap (imax (↑a0.length : Int) (↑b1.length : Int) - 1), ()), ())).bind fun y =>
    Sum.elim (fun y => some ((y.1.1, ()), ())) (fun z => some ((0, ()), ())) y : Option rs110.den) := by kernel_rfl
theorem S111_4_eq (F112 : (SV.denL ps112) → Option (rs112).den) (a0 : List Int) (b1 : List Int) (borrow6 : Int) (i7 : Int) (rw0 : List Int) : S111_4 F112 ((a0, b1, (), borrow6, i7, ()), (rw0, ())) = (
  if decide (i7 < (↑a0.length : Int)) = true then
    (F112 (a0, i7, ())).bind fun y =>
      (F112 (b1, i7, ())).bind fun y_1 =>
        if decide (IntKind.i64.wrap (IntKind.i64.wrap (y.1.1 - y_1.1.1) - borrow6) < 0) = true then
          if
              rw0.length +
                  [IntKind.i64.wrap (IntKind.i64.wrap (IntKind.i64.wrap (y.1.1 - y_1.1.1) - borrow6) + 10)].length ≤
                4294967296 then
            some
              (Sum.inl
                ((a0, b1, (), 1, IntKind.i64.wrap (i7 + 1), ()),
                  rw0 ++ [IntKind.i64.wrap (IntKind.i64.wrap (IntKind.i64.wrap (y.1.1 - y_1.1.1) - borrow6) + 10)], ()))
          else none
        else
          if rw0.length + [IntKind.i64.wrap (IntKind.i64.wrap (y.1.1 - y_1.1.1) - borrow6)].length ≤ 4294967296 then
            some
              (Sum.inl
                ((a0, b1, (), 0, IntKind.i64.wrap (i7 + 1), ()),
                  rw0 ++ [IntKind.i64.wrap (IntKind.i64.wrap (y.1.1 - y_1.1.1) - borrow6)], ()))
          else none
  else some (Sum.inr (((), ()), rw0, ())) : Option (sh111_4.den ⊕ denX w111_4)) := by kernel_rfl
theorem F111_eq (g111_4 : sh111_4.den → Option (denX w111_4)) (a0 : List Int) (b1 : List Int) : F111 g111_4 (a0, b1, ()) = (
  (g111_4 ((a0, b1, (), 0, 0, ()), [], ())).bind fun y => some ((y.2.1, ()), ()) : Option rs111.den) := by kernel_rfl
theorem F68_eq (F96 : (SV.denL ps96) → Option (rs96).den) (F109 : (SV.denL ps109) → Option (rs109).den) (F110 : (SV.denL ps110) → Option (rs110).den) (F111 : (SV.denL ps111) → Option (rs111).den) (a0_0 : Bool) (a0_1 : List Int) (b1_0 : Bool) (b1_1 : List Int) : F68 F96 F109 F110 F111 ((a0_0, a0_1), (b1_0, b1_1), ()) = (
  if (a0_0 == b1_0) = true then
    (F109 (a0_1, b1_1, ())).bind fun y => (F96 ((a0_0, y.1.1), ())).bind fun y => some (((y.1.1.1, y.1.1.2), ()), ())
  else
    (F110 (a0_1, b1_1, ())).bind fun y =>
      if decide (y.1.1 ≥ 0) = true then
        (F111 (a0_1, b1_1, ())).bind fun y => (F96 ((a0_0, y.1.1), ())).bind fun y => some (((y.1.1.1, y.1.1.2), ()), ())
      else
        (F111 (b1_1, a0_1, ())).bind fun y => (F96 ((b1_0, y.1.1), ())).bind fun y => some (((y.1.1.1, y.1.1.2), ()), ()) : Option rs68.den) := by kernel_rfl
theorem S69_7_eq (F112 : (SV.denL ps112) → Option (rs112).den) (i6 : Int) (carry7 : Int) (k8 : Int) (b0_0 : Bool) (b0_1 : List Int) (b1_0 : Bool) (b1_1 : List Int) (b2_0 : Bool) (b2_1 : List Int) (rw3 : List Int) : S69_7 F112 (((), (), (), (), i6, carry7, k8, ()), ((b0_0, b0_1, ()), (b1_0, b1_1, ()), (b2_0, b2_1, ()), rw3, ())) = (
  if decide (k8 ≤ (↑b1_1.length : Int)) = true then
    if 0 ≤ IntKind.i64.wrap (i6 + k8) then
      if IntKind.i64.wrap (i6 + k8) < (↑rw3.length : Int) then
        if 0 ≤ i6 then
          if i6 < (↑b0_1.length : Int) then
            (F112 (b1_1, k8, ())).bind fun y =>
              if 0 ≤ IntKind.i64.wrap (i6 + k8) then
                if IntKind.i64.wrap (i6 + k8) < (↑rw3.length : Int) then
                  some
                    (Sum.inl
                      (((), (), (), (), i6,
                          IntKind.i64.wrap
                            ((IntKind.i64.wrap
                                  (IntKind.i64.wrap
                                      (rw3.getD (IntKind.i64.wrap (i6 + k8)).toNat 0 +
                                        IntKind.i64.wrap (b0_1.getD i6.toNat 0 * y.1.1)) +
                                    carry7)).tdiv
                              10),
                          IntKind.i64.wrap (k8 + 1), ()),
                        (b0_0, b0_1, ()), (b1_0, b1_1, ()), (b2_0, b2_1, ()),
                        rw3.set (IntKind.i64.wrap (i6 + k8)).toNat
                          ((IntKind.i64.wrap
                                (IntKind.i64.wrap
                                    (rw3.getD (IntKind.i64.wrap (i6 + k8)).toNat 0 +
                                      IntKind.i64.wrap (b0_1.getD i6.toNat 0 * y.1.1)) +
                                  carry7)).tmod
                            10),
                        ()))
                else none
              else none
          else none
        else none
      else none
    else none
  else some (Sum.inr (((), (), (), (), i6, ()), (b0_0, b0_1, ()), (b1_0, b1_1, ()), (b2_0, b2_1, ()), rw3, ())) : Option (sh69_7.den ⊕ denX w69_7)) := by kernel_rfl
theorem S69_3_eq (g69_7 : sh69_7.den → Option (denX w69_7)) (i6 : Int) (b0_0 : Bool) (b0_1 : List Int) (b1_0 : Bool) (b1_1 : List Int) (b2_0 : Bool) (b2_1 : List Int) (rw3 : List Int) : S69_3 g69_7 (((), (), (), (), i6, ()), ((b0_0, b0_1, ()), (b1_0, b1_1, ()), (b2_0, b2_1, ()), rw3, ())) = (
  if decide (i6 < (↑b0_1.length : Int)) = true then
    (g69_7 (((), (), (), (), i6, 0, 0, ()), (b0_0, b0_1, ()), (b1_0, b1_1, ()), (b2_0, b2_1, ()), rw3, ())).bind fun y =>
      some
        (Sum.inl
          (((), (), (), (), IntKind.i64.wrap (y.1.2.2.2.2.1 + 1), ()), (y.2.1.1, y.2.1.2.1, ()),
            (y.2.2.1.1, y.2.2.1.2.1, ()), (y.2.2.2.1.1, y.2.2.2.1.2.1, ()), y.2.2.2.2.1, ()))
  else some (Sum.inr (((), (), (), (), ()), (b0_0, b0_1, ()), (b1_0, b1_1, ()), (b2_0, b2_1, ()), rw3, ())) : Option (sh69_3.den ⊕ denX w69_3)) := by kernel_rfl
theorem F69_eq (F96 : (SV.denL ps96) → Option (rs96).den) (g69_3 : sh69_3.den → Option (denX w69_3)) (a0_0 : Bool) (a0_1 : List Int) (b1_0 : Bool) (b1_1 : List Int) : F69 F96 g69_3 ((a0_0, a0_1), (b1_0, b1_1), ()) = (
  if 0 ≤ IntKind.i64.wrap (IntKind.i64.wrap ((↑a0_1.length : Int) + (↑b1_1.length : Int)) + 1) then
    if
        IntKind.i64.wrap (IntKind.i64.wrap ((↑a0_1.length : Int) + (↑b1_1.length : Int)) + 1) ≤
          IntKind.i64.wrap (IntKind.i64.wrap ((↑a0_1.length : Int) + (↑b1_1.length : Int)) + 1) then
      if IntKind.i64.wrap (IntKind.i64.wrap ((↑a0_1.length : Int) + (↑b1_1.length : Int)) + 1) ≤ ((4294967296 : Nat) : Int) then
        (g69_3
              (((), (), (), (), 0, ()), (a0_0, a0_1, ()), (b1_0, b1_1, ()), (false, [], ()),
                List.replicate
                  (IntKind.i64.wrap (IntKind.i64.wrap ((↑a0_1.length : Int) + (↑b1_1.length : Int)) + 1)).toNat 0,
                ())).bind
          fun y => (F96 ((!y.2.1.1 == y.2.2.1.1, y.2.2.2.2.1), ())).bind fun y => some (((y.1.1.1, y.1.1.2), ()), ())
      else none
    else none
  else none : Option rs69.den) := by kernel_rfl
theorem S46_7_eq (i4 : Int) (b0_0 : Bool) (b0_1 : List Int) (rw1 : List Int) : S46_7 (((), (), i4, ()), ((b0_0, b0_1, ()), rw1, ())) = (
  if decide (i4 ≥ 0) = true then
    if 0 ≤ i4 then
      if i4 < (↑b0_1.length : Int) then
        if rw1.length + [IntKind.u8.wrap (IntKind.i64.wrap (48 + b0_1.getD i4.toNat 0))].length ≤ 4294967296 then
          some
            (Sum.inl
              (((), (), IntKind.i64.wrap (i4 - 1), ()), (b0_0, b0_1, ()),
                rw1 ++ [IntKind.u8.wrap (IntKind.i64.wrap (48 + b0_1.getD i4.toNat 0))], ()))
        else none
      else none
    else none
  else some (Sum.inr (((), ()), rw1, ())) : Option (sh46_7.den ⊕ denX w46_7)) := by kernel_rfl
theorem F46_eq (g46_7 : sh46_7.den → Option (denX w46_7)) (x0_0 : Bool) (x0_1 : List Int) : F46 g46_7 ((x0_0, x0_1), ()) = (
  if ((↑x0_1.length : Int) == 0) = true then some (([(48 : UInt8)], ()), ())
  else
    if x0_0 = true then
      (g46_7 (((), (), IntKind.i64.wrap ((↑x0_1.length : Int) - 1), ()), (x0_0, x0_1, ()), [45], ())).bind fun y =>
        some ((List.map (fun n => UInt8.ofNat n.toNat) y.2.1, ()), ())
    else
      (g46_7 (((), (), IntKind.i64.wrap ((↑x0_1.length : Int) - 1), ()), (x0_0, x0_1, ()), [], ())).bind fun y =>
        some ((List.map (fun n => UInt8.ofNat n.toNat) y.2.1, ()), ()) : Option rs46.den) := by kernel_rfl
theorem F71_eq (F46 : (SV.denL ps46) → Option (rs46).den) (x0_0 : Bool) (x0_1 : List Int) : F71 F46 ((x0_0, x0_1), ()) = (
  if decide ((↑x0_1.length : Int) > 100) = true then some (([], 4, ()), ())
  else (F46 ((x0_0, x0_1), ())).bind fun y => some ((y.1.1, 0, ()), ()) : Option rs71.den) := by kernel_rfl
theorem F67_eq (F72 : (SV.denL ps72) → Option (rs72).den) (c0 : Int) (base1 : Int) : F67 F72 (c0, base1, ()) = (
  (F72 (c0, ())).bind fun y =>
    if y.1.1 = true then
      if decide (IntKind.i64.wrap (IntKind.u8.wrap (c0 - 48)) ≥ base1) = true then some ((-1, ()), ())
      else some ((IntKind.i64.wrap (IntKind.u8.wrap (c0 - 48)), ()), ())
    else
      if decide (c0 ≥ 97) = true then
        if decide (c0 ≤ 102) = true then
          if decide (IntKind.i64.wrap (IntKind.i64.wrap (IntKind.u8.wrap (c0 - 97)) + 10) ≥ base1) = true then
            some ((-1, ()), ())
          else some ((IntKind.i64.wrap (IntKind.i64.wrap (IntKind.u8.wrap (c0 - 97)) + 10), ()), ())
        else
          if decide (c0 ≥ 65) = true then
            if decide (c0 ≤ 70) = true then
              if decide (IntKind.i64.wrap (IntKind.i64.wrap (IntKind.u8.wrap (c0 - 65)) + 10) ≥ base1) = true then
                some ((-1, ()), ())
              else some ((IntKind.i64.wrap (IntKind.i64.wrap (IntKind.u8.wrap (c0 - 65)) + 10), ()), ())
            else if decide (-1 ≥ base1) = true then some ((-1, ()), ()) else some ((-1, ()), ())
          else if decide (-1 ≥ base1) = true then some ((-1, ()), ()) else some ((-1, ()), ())
      else
        if decide (c0 ≥ 65) = true then
          if decide (c0 ≤ 70) = true then
            if decide (IntKind.i64.wrap (IntKind.i64.wrap (IntKind.u8.wrap (c0 - 65)) + 10) ≥ base1) = true then
              some ((-1, ()), ())
            else some ((IntKind.i64.wrap (IntKind.i64.wrap (IntKind.u8.wrap (c0 - 65)) + 10), ()), ())
          else if decide (-1 ≥ base1) = true then some ((-1, ()), ()) else some ((-1, ()), ())
        else if decide (-1 ≥ base1) = true then some ((-1, ()), ()) else some ((-1, ()), ()) : Option rs67.den) := by kernel_rfl
theorem S26_17_eq (F67 : (SV.denL ps67) → Option (rs67).den) (F68 : (SV.denL ps68) → Option (rs68).den) (F69 : (SV.denL ps69) → Option (rs69).den) (F70 : (SV.denL ps70) → Option (rs70).den) (s0 : List UInt8) (base4 : Int) (i6 : Int) (b0_0 : Bool) (b0_1 : List Int) : S26_17 F67 F68 F69 F70 ((s0, base4, (), i6, ()), ((b0_0, b0_1, ()), ())) = (
  if decide (i6 < (↑s0.length : Int)) = true then
    if 0 ≤ i6 then
      if i6 < (↑s0.length : Int) then
        if ((↑(s0.getD i6.toNat (0 : UInt8)).toNat : Int) == 95) = true then
          if (i6 == 0) = true then some (Sum.inr (Sum.inl (([], 19, ()), ())))
          else
            if (i6 == IntKind.i64.wrap ((↑s0.length : Int) - 1)) = true then some (Sum.inr (Sum.inl (([], 19, ()), ())))
            else
              if 0 ≤ IntKind.i64.wrap (i6 - 1) then
                if IntKind.i64.wrap (i6 - 1) < (↑s0.length : Int) then
                  if
                      ((↑(s0.getD (IntKind.i64.wrap (i6 - 1)).toNat (0 : UInt8)).toNat : Int) ==
                          95) =
                        true then
                    some (Sum.inr (Sum.inl (([], 19, ()), ())))
                  else some (Sum.inl ((s0, base4, (), IntKind.i64.wrap (i6 + 1), ()), (b0_0, b0_1, ()), ()))
                else none
              else none
        else
          if 0 ≤ i6 then
            if i6 < (↑s0.length : Int) then
              (F67 ((↑(s0.getD i6.toNat (0 : UInt8)).toNat : Int), base4, ())).bind fun y =>
                if decide (y.1.1 < 0) = true then some (Sum.inr (Sum.inl (([], 19, ()), ())))
                else
                  (F70 (base4, ())).bind fun y_1 =>
                    (F69 ((b0_0, b0_1), (y_1.1.1.1, y_1.1.1.2), ())).bind fun y_2 =>
                      (F70 (y.1.1, ())).bind fun y =>
                        (F68 ((y_2.1.1.1, y_2.1.1.2), (y.1.1.1, y.1.1.2), ())).bind fun y =>
                          some (Sum.inl ((s0, base4, (), IntKind.i64.wrap (i6 + 1), ()), (y.1.1.1, y.1.1.2, ()), ()))
            else none
          else none
      else none
    else none
  else some (Sum.inr (Sum.inr ((s0, (), ()), (b0_0, b0_1, ()), ()))) : Option (sh26_17.den ⊕ denX w26_17)) := by kernel_rfl
theorem F26_eq (F71 : (SV.denL ps71) → Option (rs71).den) (g26_17 : sh26_17.den → Option (denX w26_17)) (s0 : List UInt8) : F26 F71 g26_17 (s0, ()) = (
  if decide ((↑s0.length : Int) > 500) = true then some (([], 20, ()), ())
  else
    if decide ((↑s0.length : Int) > 1) = true then
      if 0 < (↑s0.length : Int) then
        if ((↑(s0.getD 0 (0 : UInt8)).toNat : Int) == 48) = true then
          if 1 < (↑s0.length : Int) then
            if ((↑(s0.getD 1 (0 : UInt8)).toNat : Int) == 120) = true then
              if 2 ≤ (↑s0.length : Int) then
                if (↑s0.length : Int) ≤ (↑s0.length : Int) then
                  (g26_17 ((List.drop 2 s0, 16, (), 0, ()), (false, [], ()), ())).bind fun y =>
                    Sum.elim (fun y => some ((y.1.1, y.1.2.1, ()), ()))
                      (fun z =>
                        if (z.1.1 == []) = true then some (([], 19, ()), ())
                        else (F71 ((z.2.1.1, z.2.1.2.1), ())).bind fun y => some ((y.1.1, y.1.2.1, ()), ()))
                      y
                else none
              else none
            else
              if ((↑(s0.getD 1 (0 : UInt8)).toNat : Int) == 111) = true then
                if 2 ≤ (↑s0.length : Int) then
                  if (↑s0.length : Int) ≤ (↑s0.length : Int) then
                    (g26_17 ((List.drop 2 s0, 8, (), 0, ()), (false, [], ()), ())).bind fun y =>
                      Sum.elim (fun y => some ((y.1.1, y.1.2.1, ()), ()))
                        (fun z =>
                          if (z.1.1 == []) = true then some (([], 19, ()), ())
                          else (F71 ((z.2.1.1, z.2.1.2.1), ())).bind fun y => some ((y.1.1, y.1.2.1, ()), ()))
                        y
                  else none
                else none
              else
                if ((↑(s0.getD 1 (0 : UInt8)).toNat : Int) == 98) = true then
                  if 2 ≤ (↑s0.length : Int) then
                    if (↑s0.length : Int) ≤ (↑s0.length : Int) then
                      (g26_17 ((List.drop 2 s0, 2, (), 0, ()), (false, [], ()), ())).bind fun y =>
                        Sum.elim (fun y => some ((y.1.1, y.1.2.1, ()), ()))
                          (fun z =>
                            if (z.1.1 == []) = true then some (([], 19, ()), ())
                            else (F71 ((z.2.1.1, z.2.1.2.1), ())).bind fun y => some ((y.1.1, y.1.2.1, ()), ()))
                          y
                    else none
                  else none
                else some (([], 19, ()), ())
          else none
        else
          (g26_17 ((s0, 10, (), 0, ()), (false, [], ()), ())).bind fun y =>
            Sum.elim (fun y => some ((y.1.1, y.1.2.1, ()), ()))
              (fun z =>
                if (z.1.1 == []) = true then some (([], 19, ()), ())
                else (F71 ((z.2.1.1, z.2.1.2.1), ())).bind fun y => some ((y.1.1, y.1.2.1, ()), ()))
              y
      else none
    else
      (g26_17 ((s0, 10, (), 0, ()), (false, [], ()), ())).bind fun y =>
        Sum.elim (fun y => some ((y.1.1, y.1.2.1, ()), ()))
          (fun z =>
            if (z.1.1 == []) = true then some (([], 19, ()), ())
            else (F71 ((z.2.1.1, z.2.1.2.1), ())).bind fun y => some ((y.1.1, y.1.2.1, ()), ()))
          y : Option rs26.den) := by kernel_rfl
theorem F5_eq (F9 : (SV.denL ps9) → Option (rs9).den) (F10 : (SV.denL ps10) → Option (rs10).den) (F25 : (SV.denL ps25) → Option (rs25).den) (F26 : (SV.denL ps26) → Option (rs26).den) (s0 : List UInt8) : F5 F9 F10 F25 F26 (s0, ()) = (
  (F9 ([s0], ())).bind fun y =>
    if (!y.1.1) = true then (F10 ()).bind fun y => some ((y.1.1, ()), ())
    else
      (F25 (s0, ())).bind fun y =>
        (F26 (s0, ())).bind fun y_1 =>
          if (y.1.1 == y_1.1.1) = true then
            if (y.1.2.1 == y_1.1.2.1) = true then (F10 ()).bind fun y => some ((y.1.1, ()), ())
            else some ((false, ()), ())
          else some ((false, ()), ()) : Option rs5.den) := by kernel_rfl
end Go.Proofs.Rf
/- The functions, evaluated. -/
namespace Go.Proofs.Rf
open Go Go.RowKit
end Go.Proofs.Rf
/- The functions, filled in. -/
set_option linter.unusedVariables false
namespace Go.Proofs.Rf
open Go Go.RowKit
noncomputable def L72 : (SV.denL ps72) → Option (rs72).den := F72
theorem okL72 : CallOK Tryz.prog 72 (mkCall ps72 rs72 L72) := call72
noncomputable def Lg96_2 : sh96_2.den → Option (denX w96_2) := limL (S96_2)
noncomputable def L96 : (SV.denL ps96) → Option (rs96).den := F96 Lg96_2
theorem okL96 : CallOK Tryz.prog 96 (mkCall ps96 rs96 L96) := call96 (lim_limL _)
noncomputable def Lg52_6 : sh52_6.den → Option (denX w52_6) := limL (S52_6)
noncomputable def L52 : (SV.denL ps52) → Option (rs52).den := F52 L96 Lg52_6
theorem okL52 : CallOK Tryz.prog 52 (mkCall ps52 rs52 L52) := call52 okL96 (lim_limL _)
noncomputable def L140 : (SV.denL ps140) → Option (rs140).den := iterF (fun R => F140 R) 100
theorem okL140 : CallOK Tryz.prog 140 (mkCall ps140 rs140 L140) := callOK_iter ⟨Tryz.f140, Tryz.func140, by kernel_rfl, by kernel_rfl⟩ (fun R hR => call140 hR) 100
noncomputable def L113 : (SV.denL ps113) → Option (rs113).den := F113 L140
theorem okL113 : CallOK Tryz.prog 113 (mkCall ps113 rs113 L113) := call113 okL140
noncomputable def L70 : (SV.denL ps70) → Option (rs70).den := F70 L52 L113
theorem okL70 : CallOK Tryz.prog 70 (mkCall ps70 rs70 L70) := call70 okL113 okL52
noncomputable def L112 : (SV.denL ps112) → Option (rs112).den := F112
theorem okL112 : CallOK Tryz.prog 112 (mkCall ps112 rs112 L112) := call112
noncomputable def Lg109_4 : sh109_4.den → Option (denX w109_4) := limL (S109_4 L112)
noncomputable def L109 : (SV.denL ps109) → Option (rs109).den := F109 Lg109_4
theorem okL109 : CallOK Tryz.prog 109 (mkCall ps109 rs109 L109) := call109 okL112 (lim_limL _)
noncomputable def Lg110_2 : sh110_2.den → Option (denX w110_2) := limL (S110_2 L112)
noncomputable def L110 : (SV.denL ps110) → Option (rs110).den := F110 Lg110_2
theorem okL110 : CallOK Tryz.prog 110 (mkCall ps110 rs110 L110) := call110 okL112 (lim_limL _)
noncomputable def Lg111_4 : sh111_4.den → Option (denX w111_4) := limL (S111_4 L112)
noncomputable def L111 : (SV.denL ps111) → Option (rs111).den := F111 Lg111_4
theorem okL111 : CallOK Tryz.prog 111 (mkCall ps111 rs111 L111) := call111 okL112 (lim_limL _)
noncomputable def L68 : (SV.denL ps68) → Option (rs68).den := F68 L96 L109 L110 L111
theorem okL68 : CallOK Tryz.prog 68 (mkCall ps68 rs68 L68) := call68 okL109 okL110 okL111 okL96
noncomputable def Lg69_7 : sh69_7.den → Option (denX w69_7) := limL (S69_7 L112)
noncomputable def Lg69_3 : sh69_3.den → Option (denX w69_3) := limL (S69_3 Lg69_7)
noncomputable def L69 : (SV.denL ps69) → Option (rs69).den := F69 L96 Lg69_3
theorem okL69 : CallOK Tryz.prog 69 (mkCall ps69 rs69 L69) := call69 okL112 okL96 (lim_limL _) (lim_limL _)
noncomputable def Lg46_7 : sh46_7.den → Option (denX w46_7) := limL (S46_7)
noncomputable def L46 : (SV.denL ps46) → Option (rs46).den := F46 Lg46_7
theorem okL46 : CallOK Tryz.prog 46 (mkCall ps46 rs46 L46) := call46 (lim_limL _)
noncomputable def L100 : (SV.denL ps100) → Option (rs100).den := F100
theorem okL100 : CallOK Tryz.prog 100 (mkCall ps100 rs100 L100) := call100
noncomputable def Lg101_1 : sh101_1.den → Option (denX w101_1) := limL (S101_1)
noncomputable def L101 : (SV.denL ps101) → Option (rs101).den := F101 Lg101_1
theorem okL101 : CallOK Tryz.prog 101 (mkCall ps101 rs101 L101) := call101 (lim_limL _)
noncomputable def L200 : (SV.denL ps200) → Option (rs200).den := F200
theorem okL200 : CallOK Tryz.prog 200 (mkCall ps200 rs200 L200) := call200
noncomputable def L199 : (SV.denL ps199) → Option (rs199).den := F199 L200
theorem okL199 : CallOK Tryz.prog 199 (mkCall ps199 rs199 L199) := call199 okL200
noncomputable def Lg64_4 : sh64_4.den → Option (denX w64_4) := limL (S64_4 L199 L200)
noncomputable def L64 : (SV.denL ps64) → Option (rs64).den := F64 Lg64_4
theorem okL64 : CallOK Tryz.prog 64 (mkCall ps64 rs64 L64) := call64 okL199 okL200 (lim_limL _)
abbrev L104 : (SV.denL ps104) → Option (rs104).den := F104
theorem okL104 : CallOK Tryz.prog 104 (mkCall ps104 rs104 L104) := call104
abbrev L105 : (SV.denL ps105) → Option (rs105).den := F105
theorem okL105 : CallOK Tryz.prog 105 (mkCall ps105 rs105 L105) := call105
noncomputable def L103 : (SV.denL ps103) → Option (rs103).den := F103 L104 L105
theorem okL103 : CallOK Tryz.prog 103 (mkCall ps103 rs103 L103) := call103 okL104 okL105
noncomputable def Lg102_3 : sh102_3.den → Option (denX w102_3) := limL (S102_3 L103)
noncomputable def L102 : (SV.denL ps102) → Option (rs102).den := F102 Lg102_3
theorem okL102 : CallOK Tryz.prog 102 (mkCall ps102 rs102 L102) := call102 okL103 (lim_limL _)
noncomputable def Lg106_1 : sh106_1.den → Option (denX w106_1) := limL (S106_1)
noncomputable def L106 : (psh106.den) → Option (rs106).den := F106 Lg106_1
theorem okL106 : CallOK Tryz.prog 106 (mkCallB psh106 rs106 m106 1 L106) := call106 (lim_limL _)
noncomputable def Lg136_1 : sh136_1.den → Option (denX w136_1) := limL (S136_1)
noncomputable def L136 : (SV.denL ps136) → Option (rs136).den := F136 Lg136_1
theorem okL136 : CallOK Tryz.prog 136 (mkCall ps136 rs136 L136) := call136 (lim_limL _)
noncomputable def L107 : (SV.denL ps107) → Option (rs107).den := F107 L136
theorem okL107 : CallOK Tryz.prog 107 (mkCall ps107 rs107 L107) := call107 okL136
abbrev L108 : (SV.denL ps108) → Option (rs108).den := F108
theorem okL108 : CallOK Tryz.prog 108 (mkCall ps108 rs108 L108) := call108
noncomputable def L66 : (SV.denL ps66) → Option (rs66).den := F66 L102 L106 L107 L108
theorem okL66 : CallOK Tryz.prog 66 (mkCall ps66 rs66 L66) := call66 okL102 okL106 okL107 okL108
noncomputable def L63 : (SV.denL ps63) → Option (rs63).den := F63 L100
theorem okL63 : CallOK Tryz.prog 63 (mkCall ps63 rs63 L63) := call63 okL100
noncomputable def Lg65_4 : sh65_4.den → Option (denX w65_4) := limL (S65_4)
noncomputable def L65 : (SV.denL ps65) → Option (rs65).den := F65 L101 Lg65_4
theorem okL65 : CallOK Tryz.prog 65 (mkCall ps65 rs65 L65) := call65 okL101 (lim_limL _)
noncomputable def Lg25_5 : sh25_5.den → Option (denX w25_5) := limL (S25_5 L63)
noncomputable def Lg25_15 : sh25_15.den → Option (denX w25_15) := limL (S25_15 L65)
noncomputable def L25 : (SV.denL ps25) → Option (rs25).den := F25 L64 L66 Lg25_5 Lg25_15
theorem okL25 : CallOK Tryz.prog 25 (mkCall ps25 rs25 L25) := call25 okL63 okL64 okL65 okL66 (lim_limL _) (lim_limL _)
noncomputable def L71 : (SV.denL ps71) → Option (rs71).den := F71 L46
theorem okL71 : CallOK Tryz.prog 71 (mkCall ps71 rs71 L71) := call71 okL46
noncomputable def L67 : (SV.denL ps67) → Option (rs67).den := F67 L72
theorem okL67 : CallOK Tryz.prog 67 (mkCall ps67 rs67 L67) := call67 okL72
noncomputable def Lg26_17 : sh26_17.den → Option (denX w26_17) := limL (S26_17 L67 L68 L69 L70)
noncomputable def L26 : (SV.denL ps26) → Option (rs26).den := F26 L71 Lg26_17
theorem okL26 : CallOK Tryz.prog 26 (mkCall ps26 rs26 L26) := call26 okL67 okL68 okL69 okL70 okL71 (lim_limL _)
noncomputable def Lg9_2 : sh9_2.den → Option (denX w9_2) := limL (S9_2)
noncomputable def L9 : (SV.denL ps9) → Option (rs9).den := F9 Lg9_2
theorem okL9 : CallOK Tryz.prog 9 (mkCall ps9 rs9 L9) := call9 (lim_limL _)
end Go.Proofs.Rf
/- Limbs of base ten and of base ten to the ninth. -/
namespace Go.Proofs.Rf
open Go

/-- Loops: what holds at the head, and becomes smaller. -/
theorem limL_ind {A B : Type} {f : A → Option (A ⊕ B)} (μ : A → Nat) (I : A → Prop) (Q : B → Prop) (h : ∀ x, I x → (∃ y, f x = some (.inl y) ∧ I y ∧ μ y < μ x) ∨ ∃ z, f x = some (.inr z) ∧ Q z) : ∀ x, I x → ∃ z, limL f x = some z ∧ Q z := by
  have key : ∀ n x, μ x = n → I x → ∃ z, limL f x = some z ∧ Q z := by
    intro n
    induction n using Nat.strongRecOn with
    | _ n ih =>
      intro x hx hI
      rw [limL_eq]
      rcases h x hI with ⟨y, h1, h2, h3⟩ | ⟨z, h1, h2⟩
      · rw [h1]
        exact ih (μ y) (by omega) y rfl h2
      · rw [h1]
        exact ⟨z, rfl, h2⟩
  exact fun x hI => key _ x rfl hI

theorem w64 {n : Int} (h0 : 0 ≤ n) (h1 : n < 18446744073709551616) : IntKind.u64.wrap n = n := by
  simp [IntKind.wrap, IntKind.bits, IntKind.signed]
  omega

theorem w32 {n : Int} (h0 : 0 ≤ n) (h1 : n < 4294967296) : IntKind.u32.wrap n = n := by
  simp [IntKind.wrap, IntKind.bits, IntKind.signed]
  omega

theorem w8 {n : Int} (h0 : 0 ≤ n) (h1 : n < 256) : IntKind.u8.wrap n = n := by
  simp [IntKind.wrap, IntKind.bits, IntKind.signed]
  omega

theorem wi {n : Int} (h0 : -9223372036854775808 ≤ n) (h1 : n < 9223372036854775808) : IntKind.i64.wrap n = n := by
  simp [IntKind.wrap, IntKind.bits, IntKind.signed]
  omega

theorem getD_big {a : List Int} {i : Nat} (h : a.length ≤ i) : a.getD i 0 = 0 := by
  rw [List.getD_eq_getElem?_getD, List.getElem?_eq_none h]; rfl

theorem take_set_at {l : List Int} {i k : Nat} {v : Int} (h : k ≤ i) : (l.set i v).take k = l.take k := by
  rw [List.take_set, List.set_eq_of_length_le]
  simp
  omega

theorem drop_at {l : List Int} {i : Nat} (h : i < l.length) : l.drop i = l.getD i 0 :: l.drop (i + 1) := by
  rw [List.drop_eq_getElem_cons h, List.getD_eq_getElem?_getD, List.getElem?_eq_getElem h]
  rfl

theorem getD_set {r : List Int} {i k : Nat} {v : Int} : (r.set i v).getD k 0 = if i = k ∧ i < r.length then v else r.getD k 0 := by
  simp only [List.getD_eq_getElem?_getD, List.getElem?_set]
  split
  · rename_i h
    subst h
    split
    · rename_i h; simp [h]
    · rename_i h; simp [h]
  · rename_i h; simp [h]

def bor (d : Int) : Int := if d < 0 then 1 else 0

theorem bor_range (d : Int) : 0 ≤ bor d ∧ bor d ≤ 1 := by
  unfold bor
  split <;> omega

def sgn (neg : Bool) (n : Nat) : Int := if neg = true then -(n : Int) else (n : Int)

theorem sgn_mul (x y : Int) : sgn (!(decide (x < 0) == decide (y < 0))) (x.natAbs * y.natAbs) = x * y := by
  unfold sgn
  by_cases hx : x < 0
  · rw [decide_eq_true hx]
    obtain ⟨a, rfl⟩ : ∃ a : Nat, x = -(a : Int) := ⟨x.natAbs, by omega⟩
    by_cases hy : y < 0
    · rw [decide_eq_true hy]
      obtain ⟨b, rfl⟩ : ∃ b : Nat, y = -(b : Int) := ⟨y.natAbs, by omega⟩
      simp [Int.natAbs_neg] <;> grind
    · rw [decide_eq_false hy]
      obtain ⟨b, rfl⟩ : ∃ b : Nat, y = (b : Int) := ⟨y.natAbs, by omega⟩
      simp [Int.natAbs_neg] <;> grind
  · rw [decide_eq_false hx]
    obtain ⟨a, rfl⟩ : ∃ a : Nat, x = (a : Int) := ⟨x.natAbs, by omega⟩
    by_cases hy : y < 0
    · rw [decide_eq_true hy]
      obtain ⟨b, rfl⟩ : ∃ b : Nat, y = -(b : Int) := ⟨y.natAbs, by omega⟩
      simp [Int.natAbs_neg] <;> grind
    · rw [decide_eq_false hy]
      obtain ⟨b, rfl⟩ : ∃ b : Nat, y = (b : Int) := ⟨y.natAbs, by omega⟩
      simp

namespace D
def val : List Int → Int
  | [] => 0
  | x :: r => x + 10 * val r

def Wf (l : List Int) : Prop := ∀ x ∈ l, 0 ≤ x ∧ x < 10

theorem Wf.nil : Wf [] := fun _ h => by cases h

theorem Wf.cons {x : Int} {r : List Int} (h0 : 0 ≤ x) (h1 : x < 10) (h : Wf r) : Wf (x :: r) := by
  intro y hy
  rcases List.mem_cons.1 hy with rfl | hy
  · exact ⟨h0, h1⟩
  · exact h y hy

theorem Wf.head {x : Int} {r : List Int} (h : Wf (x :: r)) : 0 ≤ x ∧ x < 10 := h x (List.mem_cons_self ..)

theorem Wf.tail {x : Int} {r : List Int} (h : Wf (x :: r)) : Wf r := fun y hy => h y (List.mem_cons_of_mem _ hy)

theorem Wf.append {a b : List Int} (h : Wf a) (k : Wf b) : Wf (a ++ b) := fun x hx => (List.mem_append.1 hx).elim (h x) (k x)

theorem Wf.take {a : List Int} (h : Wf a) (n : Nat) : Wf (a.take n) := fun x hx => h x (List.mem_of_mem_take hx)

theorem Wf.getD {a : List Int} (h : Wf a) (i : Nat) : 0 ≤ a.getD i 0 ∧ a.getD i 0 < 10 := by
  rw [List.getD_eq_getElem?_getD]
  cases hi : a[i]? with
  | none => simp
  | some x => exact h x (List.mem_of_getElem? hi)

theorem Wf.set {a : List Int} (h : Wf a) (i : Nat) {x : Int} (h0 : 0 ≤ x) (h1 : x < 10) : Wf (a.set i x) := by
  intro y hy
  rcases List.mem_or_eq_of_mem_set hy with hy | rfl
  · exact h y hy
  · exact ⟨h0, h1⟩

theorem Wf.replicate (n : Nat) : Wf (List.replicate n 0) := by
  intro x hx
  rw [(List.mem_replicate.1 hx).2]
  decide

theorem val_nonneg : ∀ {l : List Int}, Wf l → 0 ≤ val l
  | [], _ => Int.le_refl 0
  | x :: r, h => by
    have h1 := val_nonneg h.tail
    have h2 := h.head
    simp only [val]
    omega

theorem val_append (a b : List Int) : val (a ++ b) = val a + 10 ^ a.length * val b := by
  induction a with
  | nil => simp [val]
  | cons x r ih =>
    simp only [List.cons_append, val, ih, List.length_cons, Int.pow_succ]
    rw [Int.mul_add, Int.add_assoc]
    congr 2
    rw [Int.mul_comm (10 ^ r.length) 10, Int.mul_assoc]

theorem val_lt {l : List Int} (h : Wf l) : val l < 10 ^ l.length := by
  induction l with
  | nil => simp [val]
  | cons x r ih =>
    have h1 := ih h.tail
    have h2 := h.head
    simp only [val, List.length_cons, Int.pow_succ]
    omega

theorem val_replicate (n : Nat) : val (List.replicate n 0) = 0 := by
  induction n with
  | zero => rfl
  | succ n ih => simp [List.replicate_succ, val, ih]

/-- The canonical list. -/
def lim (n : Nat) : List Int := if h : n = 0 then [] else ((n % 10 : Nat) : Int) :: lim (n / 10)
decreasing_by exact Nat.div_lt_self (Nat.pos_of_ne_zero h) (by decide)

theorem lim_zero : lim 0 = [] := by rw [lim]; simp

theorem lim_pos {n : Nat} (h : n ≠ 0) : lim n = ((n % 10 : Nat) : Int) :: lim (n / 10) := by rw [lim, dif_neg h]

theorem val_lim (n : Nat) : val (lim n) = n := by
  induction n using Nat.strongRecOn with
  | _ n ih =>
    by_cases h : n = 0
    · subst h; rw [lim_zero]; rfl
    · rw [lim_pos h, val, ih _ (Nat.div_lt_self (Nat.pos_of_ne_zero h) (by decide))]
      omega

theorem Wf_lim (n : Nat) : Wf (lim n) := by
  induction n using Nat.strongRecOn with
  | _ n ih =>
    by_cases h : n = 0
    · subst h; rw [lim_zero]; exact Wf.nil
    · rw [lim_pos h]
      exact Wf.cons (by omega) (by omega) (ih _ (Nat.div_lt_self (Nat.pos_of_ne_zero h) (by decide)))

/-- No zero at the end. -/
def Nm : List Int → Prop
  | [] => True
  | [x] => x ≠ 0
  | _ :: r => Nm r

theorem Nm.tail {x y : Int} {r : List Int} (h : Nm (x :: y :: r)) : Nm (y :: r) := h

theorem val_pos : ∀ {l : List Int}, Wf l → Nm l → l ≠ [] → 0 < val l
  | [], _, _, h => absurd rfl h
  | [x], hw, hn, _ => by
    have := hw.head
    have hn : x ≠ 0 := hn
    simp only [val]
    omega
  | x :: y :: r, hw, hn, _ => by
    have h1 := val_pos hw.tail hn.tail (by simp)
    have h2 := hw.head
    rw [val]
    omega

theorem lim_val : ∀ {l : List Int}, Wf l → Nm l → lim (val l).toNat = l
  | [], _, _ => lim_zero
  | x :: r, hw, hn => by
    have hp := val_pos hw hn (by simp)
    have h2 := hw.head
    have h3 := val_nonneg hw.tail
    rw [lim_pos (by omega)]
    have e1 : (((val (x :: r)).toNat % 10 : Nat) : Int) = x := by
      simp only [val] at hp ⊢
      omega
    have e2 : (val (x :: r)).toNat / 10 = (val r).toNat := by
      simp only [val] at hp ⊢
      omega
    rw [e1, e2]
    congr 1
    cases r with
    | nil => exact lim_zero
    | cons y r => exact lim_val hw.tail hn.tail

theorem Nm_lim (n : Nat) : Nm (lim n) := by
  induction n using Nat.strongRecOn with
  | _ n ih =>
    by_cases h : n = 0
    · subst h; rw [lim_zero]; trivial
    · rw [lim_pos h]
      have hlt := Nat.div_lt_self (Nat.pos_of_ne_zero h) (show 1 < 10 by decide)
      by_cases h2 : n / 10 = 0
      · rw [h2, lim_zero]
        show ((n % 10 : Nat) : Int) ≠ 0
        omega
      · have := ih _ hlt
        rw [lim_pos h2] at this ⊢
        exact this

/-- The list without zeros at the end is the canonical one. -/
theorem take_lim {l : List Int} (hw : Wf l) {n : Nat} (hn : n ≤ l.length) (hz : ∀ i, n ≤ i → i < l.length → l.getD i 0 = 0) (hl : 0 < n → l.getD (n - 1) 0 ≠ 0) : l.take n = lim (val l).toNat := by
  have hz2 : ∀ (r : List Int), (∀ i, i < r.length → r.getD i 0 = 0) → val r = 0 := by
    intro r
    induction r with
    | nil => intro _; rfl
    | cons x r ih =>
      intro h
      have h0 := h 0 (by simp)
      have h1 := ih fun i hi => by have := h (i + 1) (by simpa using hi); simpa using this
      simp only [List.getD_cons_zero] at h0
      simp [val, h0, h1]
  have hv : val l = val (l.take n) := by
    conv => lhs; rw [← List.take_append_drop n l]
    rw [val_append, hz2 (l.drop n) fun i hi => ?_]
    · simp
    · have := hz (n + i) (by omega) (by simp at hi; omega)
      simpa [List.getD_eq_getElem?_getD] using this
  have hNm : ∀ (r : List Int), (r ≠ [] → r.getD (r.length - 1) 0 ≠ 0) → Nm r := by
    intro r
    induction r with
    | nil => intro _; trivial
    | cons x r ih =>
      intro h
      cases r with
      | nil =>
        have := h (by simp)
        show x ≠ 0
        simpa using this
      | cons y r =>
        show Nm (y :: r)
        refine ih fun _ => ?_
        have := h (by simp)
        simpa using this
  have hn2 : Nm (l.take n) := by
    refine hNm _ fun hne => ?_
    have hlen : (l.take n).length = n := by simp; omega
    have hnp : 0 < n := by
      rcases Nat.eq_zero_or_pos n with e | e
      · subst e; exact absurd (by simp) hne
      · exact e
    rw [hlen]
    have := hl hnp
    rw [List.getD_eq_getElem?_getD] at this ⊢
    rw [List.getElem?_take_of_lt (by omega)]
    exact this
  rw [hv]
  exact (lim_val (hw.take n) hn2).symm

theorem val_take_succ (a : List Int) (i : Nat) : val (a.take (i + 1)) = val (a.take i) + 10 ^ i * a.getD i 0 := by
  rcases Nat.lt_or_ge i a.length with h | h
  · rw [List.take_succ_eq_append_getElem h, val_append, List.getD_eq_getElem?_getD, List.getElem?_eq_getElem h]
    simp [val, List.length_take, Nat.min_eq_left (Nat.le_of_lt h)]
  · rw [List.take_of_length_le (by omega), List.take_of_length_le h, getD_big h]
    simp

theorem val_set {r : List Int} {i : Nat} (h : i < r.length) (v : Int) : val (r.set i v) = val r + 10 ^ i * (v - r.getD i 0) := by
  induction r generalizing i with
  | nil => simp at h
  | cons x r ih =>
    cases i with
    | zero => simp [val]; omega
    | succ i =>
      have := ih (i := i) (by simpa using h)
      simp only [List.set_cons_succ, val, this, List.getD_cons_succ, Int.pow_succ]
      grind

theorem powB (i : Nat) : (10 : Int) ^ (i + 1) = 10 ^ i * 10 := Int.pow_succ ..

theorem powB_pos (i : Nat) : (0 : Int) < 10 ^ i := Int.pow_pos (by decide)

theorem val_take_all {a : List Int} {i : Nat} (h : a.length ≤ i) : val (a.take i) = val a := by rw [List.take_of_length_le h]

/-- One limb of a sum. -/
theorem add_limb {P c x y s V : Int} (hs : s = c + x + y) : P * (s % 10) + P * 10 * (s / 10) + V = V + P * c + P * x + P * y := by
  have h : s % 10 + 10 * (s / 10) = s := by omega
  grind

/-- One limb of a product. -/
theorem mul_limb {P c x y r s V : Int} (hs : s = c + x * y + r) : V + P * (s % 10 - r) + P * 10 * (s / 10) = V + P * c + P * (x * y) := by
  have h : s % 10 + 10 * (s / 10) = s := by omega
  grind

theorem mul_bound {c x y r : Int} (hc : 0 ≤ c) (hc' : c < 10) (hx : 0 ≤ x) (hx' : x < 10) (hy : 0 ≤ y) (hy' : y < 10) (hr : 0 ≤ r) (hr' : r < 10) :
    0 ≤ x * y ∧ x * y ≤ 81 ∧ 0 ≤ c + x * y + r ∧ c + x * y + r < 100 := by
  have h1 := Int.mul_le_mul (show x ≤ 9 by omega) (show y ≤ 9 by omega) hy (by decide)
  have h2 := Int.mul_nonneg hx hy
  have h3 : (9 : Int) * 9 = 81 := by decide
  rw [h3] at h1
  omega

theorem tdivB {n : Int} (h : 0 ≤ n) : n.tdiv 10 = n / 10 := Int.tdiv_eq_ediv_of_nonneg h

theorem tmodB {n : Int} (h : 0 ≤ n) : n.tmod 10 = n % 10 := Int.tmod_eq_emod_of_nonneg h

theorem powB_mono {i j : Nat} (h : i ≤ j) : (10 : Int) ^ i ≤ 10 ^ j := by
  induction h with
  | refl => exact Int.le_refl _
  | step h ih =>
    rename_i m
    have := powB_pos m
    rw [powB]
    omega

/-- What the inner loop does: x times b is added from place i on. -/
structure InnerOK (b r : List Int) (i : Nat) (x : Int) (k : Nat) (c : Int) (r' : List Int) : Prop where
  len : r'.length = r.length
  wf : Wf r'
  c0 : 0 ≤ c
  c1 : c < 10
  vl : val r' + 10 ^ (i + k) * c = val r + 10 ^ i * (x * val (b.take k))
  hi : ∀ j, i + k ≤ j → r'.getD j 0 = r.getD j 0

theorem InnerOK.zero {b r : List Int} {i : Nat} {x : Int} (hw : Wf r) : InnerOK b r i x 0 0 r :=
  ⟨rfl, hw, by omega, by omega, by simp [val], fun _ _ => rfl⟩

theorem InnerOK.step {b r : List Int} {i : Nat} {x : Int} {k : Nat} {c : Int} {r' : List Int} (h : InnerOK b r i x k c r') (wb : Wf b) (hx : 0 ≤ x) (hx1 : x < 10) (hk : i + k < r.length) :
    InnerOK b r i x (k + 1) ((c + x * b.getD k 0 + r'.getD (i + k) 0) / 10) (r'.set (i + k) ((c + x * b.getD k 0 + r'.getD (i + k) 0) % 10)) := by
  have xb := wb.getD k
  have xr := h.wf.getD (i + k)
  have hb := mul_bound h.c0 h.c1 hx hx1 xb.1 xb.2 xr.1 xr.2
  have hl := h.len
  refine ⟨by simp [hl], h.wf.set _ (by omega) (by omega), by omega, by omega, ?_, fun j hj => ?_⟩
  · rw [val_set (by omega), val_take_succ, show i + (k + 1) = (i + k) + 1 by omega, powB]
    have e1 := mul_limb (P := 10 ^ (i + k)) (V := val r') (c := c) (x := x) (y := b.getD k 0) (r := r'.getD (i + k) 0) (s := c + x * b.getD k 0 + r'.getD (i + k) 0) rfl
    have e2 : (10 : Int) ^ (i + k) = 10 ^ i * 10 ^ k := Int.pow_add ..
    have e3 := h.vl
    grind
  · rw [getD_set, if_neg (by omega)]
    exact h.hi j (by omega)

/-- The outer loop: a's first i limbs times b. -/
structure OuterOK (a b : List Int) (i : Nat) (r : List Int) : Prop where
  len : r.length = a.length + b.length
  wf : Wf r
  vl : val r = val (a.take i) * val b
  hi : ∀ j, i + b.length ≤ j → r.getD j 0 = 0

theorem OuterOK.zero (a b : List Int) : OuterOK a b 0 (List.replicate (a.length + b.length) 0) :=
  ⟨by simp, Wf.replicate _, by simp [val, val_replicate], fun j _ => by
    rw [List.getD_eq_getElem?_getD, List.getElem?_replicate]
    split <;> rfl⟩

theorem OuterOK.step {a b : List Int} {i : Nat} {r r' : List Int} {c : Int} (h : OuterOK a b i r) (hI : InnerOK b r i (a.getD i 0) b.length c r') (hi : i < a.length) : OuterOK a b (i + 1) (r'.set (i + b.length) c) := by
  have hl := h.len
  have hl' := hI.len
  have h0 : r'.getD (i + b.length) 0 = 0 := by rw [hI.hi _ (Nat.le_refl _), h.hi _ (Nat.le_refl _)]
  refine ⟨by simp [hl', hl], hI.wf.set _ hI.c0 hI.c1, ?_, fun j hj => ?_⟩
  · rw [val_set (by omega), h0, val_take_succ]
    have e1 := hI.vl
    have e2 := h.vl
    rw [val_take_all (Nat.le_refl _)] at e1
    grind
  · rw [getD_set, if_neg (by omega), hI.hi _ (by omega), h.hi _ (by omega)]

theorem lim_eq_nil {n : Nat} : lim n = [] ↔ n = 0 := by
  constructor
  · intro h
    have := val_lim n
    rw [h] at this
    simp only [val] at this
    omega
  · rintro rfl
    exact lim_zero

theorem Nm.last : ∀ {l : List Int}, Nm l → 0 < l.length → l.getD (l.length - 1) 0 ≠ 0
  | [x], h, _ => h
  | x :: y :: r, h, _ => by
    have := Nm.last (l := y :: r) h (by simp)
    simpa using this

theorem castB (m : Nat) : ((10 ^ m : Nat) : Int) = (10 : Int) ^ m := Int.natCast_pow 10 m

theorem lim_length_of {n k : Nat} (h : n < 10 ^ k) : (lim n).length ≤ k := by
  by_cases h0 : n = 0
  · subst h0; rw [lim_zero]; simp
  · have hp : 0 < (lim n).length := by
      rcases Nat.eq_zero_or_pos (lim n).length with q | q
      · exact (h0 (lim_eq_nil.1 (List.eq_nil_of_length_eq_zero q))).elim
      · exact q
    obtain ⟨m, hm⟩ : ∃ m, (lim n).length = m + 1 := ⟨(lim n).length - 1, by omega⟩
    have h1 := (Nm_lim n).last hp
    have h2 := val_take_succ (lim n) m
    rw [← hm, List.take_length, val_lim] at h2
    have h3 := val_nonneg ((Wf_lim n).take m)
    have h4 := (Wf_lim n).getD m
    rw [hm, Nat.add_sub_cancel] at h1
    have h5 : (10 : Int) ^ m ≤ n := by
      have h6 : (10 : Int) ^ m * 1 ≤ 10 ^ m * (lim n).getD m 0 := Int.mul_le_mul_of_nonneg_left (by omega) (Int.le_of_lt (powB_pos m))
      omega
    have h7 : 10 ^ m ≤ n := by rw [← castB] at h5; exact Int.ofNat_le.1 h5
    have h8 : 10 ^ m < 10 ^ k := by omega
    have := (Nat.pow_lt_pow_iff_right (by decide : 1 < 10)).1 h8
    omega

theorem lim_lt (n : Nat) : n < 10 ^ (lim n).length := by
  have := val_lt (Wf_lim n)
  rw [val_lim, ← castB] at this
  exact Int.ofNat_lt.1 this

theorem lim_length_mono {a b : Nat} (h : a ≤ b) : (lim a).length ≤ (lim b).length := lim_length_of (Nat.lt_of_le_of_lt h (lim_lt b))

/-- An integer as the texts hold it. -/
def zl (z : Int) : Bool × List Int := (decide (z < 0), lim z.natAbs)

theorem sub_limb {P c x y V : Int} (t : Int) (h : t = if x - y - c < 0 then 1 else 0) : V + P * ((x - y - c) % 10) - P * 10 * t = V + P * x - P * y - P * c ∨ ¬ (0 ≤ x ∧ x < 10 ∧ 0 ≤ y ∧ y < 10 ∧ 0 ≤ c ∧ c ≤ 1) := by
  by_cases q : 0 ≤ x ∧ x < 10 ∧ 0 ≤ y ∧ y < 10 ∧ 0 ≤ c ∧ c ≤ 1
  · left
    have h2 : (x - y - c) % 10 = x - y - c + 10 * t := by
      rw [h]
      split <;> omega
    rw [h2]
    grind
  · exact .inr q

/-- One round of a difference: what its invariant says. -/
structure SubOK (a b : List Int) (i : Nat) (r : List Int) (c : Int) : Prop where
  wf : Wf r
  c0 : 0 ≤ c
  c1 : c ≤ 1
  v : val (r.take i) - 10 ^ i * c = val (a.take i) - val (b.take i)

theorem SubOK.step {a b r r' : List Int} {i : Nat} {c : Int} (h : SubOK a b i r c) (wa : Wf a) (wb : Wf b) (hr : r'.take i = r.take i) (hw : Wf r') (hd : r'.getD i 0 = (a.getD i 0 - b.getD i 0 - c) % 10) : SubOK a b (i + 1) r' (bor (a.getD i 0 - b.getD i 0 - c)) := by
  refine ⟨hw, (bor_range _).1, (bor_range _).2, ?_⟩
  rw [val_take_succ, val_take_succ, val_take_succ, powB, hr, hd]
  have h1 := wa.getD i
  have h2 := wb.getD i
  have h3 := h.v
  have h4 := sub_limb (P := 10 ^ i) (c := c) (x := a.getD i 0) (y := b.getD i 0) (V := val (r.take i)) (bor (a.getD i 0 - b.getD i 0 - c)) rfl
  rcases h4 with h4 | h4
  · grind
  · exact (h4 ⟨h1.1, h1.2, h2.1, h2.2, h.c0, h.c1⟩).elim

theorem SubOK.done {a b r : List Int} {c : Int} (h : SubOK a b a.length r c) (hr : r.length = a.length) (hb : b.length ≤ a.length) (hle : val b ≤ val a) : val r = val a - val b := by
  have h1 := h.v
  rw [val_take_all (by omega), val_take_all (Nat.le_refl _), val_take_all hb] at h1
  have h2 := val_lt h.wf
  rw [hr] at h2
  have h3 := h.c0
  have h4 := h.c1
  have h5 := powB_pos a.length
  generalize (10 : Int) ^ a.length = P at *
  rcases (show c = 0 ∨ c = 1 by omega) with rfl | rfl
  · omega
  · omega

theorem sgn_natAbs (neg : Bool) (n : Nat) : (sgn neg n).natAbs = n := by
  unfold sgn
  cases neg <;> simp

theorem zl_sgn (neg : Bool) (n : Nat) : zl (sgn neg n) = (neg && decide (0 < (lim n).length), lim n) := by
  unfold zl
  rw [sgn_natAbs]
  congr 1
  unfold sgn
  cases neg
  · simp
  · simp only [if_true, Bool.true_and]
    rw [decide_eq_decide]
    constructor
    · intro h
      rcases Nat.eq_zero_or_pos (lim n).length with q | q
      · have := lim_eq_nil.1 (List.eq_nil_of_length_eq_zero q)
        omega
      · exact q
    · intro h
      have : n ≠ 0 := by
        rintro rfl
        rw [lim_zero] at h
        simp at h
      omega

/-- So long at most. -/
def Sz (k : Nat) (z : Int) : Prop := (lim z.natAbs).length ≤ k

theorem lim_add_length (a b : Nat) : (lim (a + b)).length ≤ max (lim a).length (lim b).length + 1 := by
  refine lim_length_of ?_
  have h1 := lim_lt a
  have h2 := lim_lt b
  have h3 : 10 ^ (lim a).length ≤ 10 ^ max (lim a).length (lim b).length := Nat.pow_le_pow_right (by decide) (Nat.le_max_left ..)
  have h4 : 10 ^ (lim b).length ≤ 10 ^ max (lim a).length (lim b).length := Nat.pow_le_pow_right (by decide) (Nat.le_max_right ..)
  rw [Nat.pow_succ]
  omega

theorem Sz.add {j k : Nat} {x y : Int} (hx : Sz j x) (hy : Sz k y) : Sz (max j k + 1) (x + y) := by
  have h1 := lim_add_length x.natAbs y.natAbs
  have h2 := lim_length_mono (Int.natAbs_add_le x y)
  unfold Sz at *
  omega

theorem lim_mul_length (a b : Nat) : (lim (a * b)).length ≤ (lim a).length + (lim b).length := by
  refine lim_length_of ?_
  rw [Nat.pow_add]
  have h1 := lim_lt a
  have h2 := lim_lt b
  by_cases hb : b = 0
  · subst hb
    rw [Nat.mul_zero]
    exact Nat.mul_pos (Nat.pow_pos (by decide)) (Nat.pow_pos (by decide))
  · exact Nat.mul_lt_mul_of_lt_of_le h1 (Nat.le_of_lt h2) (Nat.lt_of_le_of_lt (Nat.zero_le _) h2)

theorem Sz.mul {j k : Nat} {x y : Int} (hx : Sz j x) (hy : Sz k y) : Sz (j + k) (x * y) := by
  unfold Sz at *
  rw [Int.natAbs_mul]
  have := lim_mul_length x.natAbs y.natAbs
  omega

theorem Sz.neg {k : Nat} {x : Int} (hx : Sz k x) : Sz k (-x) := by
  unfold Sz at *
  rw [Int.natAbs_neg]
  exact hx

theorem Sz.mono {j k : Nat} {x : Int} (h : Sz j x) (hk : j ≤ k) : Sz k x := Nat.le_trans h hk

theorem Sz.le {k : Nat} {x y : Int} (h : Sz k y) (hx : x.natAbs ≤ y.natAbs) : Sz k x := Nat.le_trans (lim_length_mono hx) h
end D

namespace M
def val : List Int → Int
  | [] => 0
  | x :: r => x + 1000000000 * val r

def Wf (l : List Int) : Prop := ∀ x ∈ l, 0 ≤ x ∧ x < 1000000000

theorem Wf.nil : Wf [] := fun _ h => by cases h

theorem Wf.cons {x : Int} {r : List Int} (h0 : 0 ≤ x) (h1 : x < 1000000000) (h : Wf r) : Wf (x :: r) := by
  intro y hy
  rcases List.mem_cons.1 hy with rfl | hy
  · exact ⟨h0, h1⟩
  · exact h y hy

theorem Wf.head {x : Int} {r : List Int} (h : Wf (x :: r)) : 0 ≤ x ∧ x < 1000000000 := h x (List.mem_cons_self ..)

theorem Wf.tail {x : Int} {r : List Int} (h : Wf (x :: r)) : Wf r := fun y hy => h y (List.mem_cons_of_mem _ hy)

theorem Wf.append {a b : List Int} (h : Wf a) (k : Wf b) : Wf (a ++ b) := fun x hx => (List.mem_append.1 hx).elim (h x) (k x)

theorem Wf.take {a : List Int} (h : Wf a) (n : Nat) : Wf (a.take n) := fun x hx => h x (List.mem_of_mem_take hx)

theorem Wf.getD {a : List Int} (h : Wf a) (i : Nat) : 0 ≤ a.getD i 0 ∧ a.getD i 0 < 1000000000 := by
  rw [List.getD_eq_getElem?_getD]
  cases hi : a[i]? with
  | none => simp
  | some x => exact h x (List.mem_of_getElem? hi)

theorem Wf.set {a : List Int} (h : Wf a) (i : Nat) {x : Int} (h0 : 0 ≤ x) (h1 : x < 1000000000) : Wf (a.set i x) := by
  intro y hy
  rcases List.mem_or_eq_of_mem_set hy with hy | rfl
  · exact h y hy
  · exact ⟨h0, h1⟩

theorem Wf.replicate (n : Nat) : Wf (List.replicate n 0) := by
  intro x hx
  rw [(List.mem_replicate.1 hx).2]
  decide

theorem val_nonneg : ∀ {l : List Int}, Wf l → 0 ≤ val l
  | [], _ => Int.le_refl 0
  | x :: r, h => by
    have h1 := val_nonneg h.tail
    have h2 := h.head
    simp only [val]
    omega

theorem val_append (a b : List Int) : val (a ++ b) = val a + 1000000000 ^ a.length * val b := by
  induction a with
  | nil => simp [val]
  | cons x r ih =>
    simp only [List.cons_append, val, ih, List.length_cons, Int.pow_succ]
    rw [Int.mul_add, Int.add_assoc]
    congr 2
    rw [Int.mul_comm (1000000000 ^ r.length) 1000000000, Int.mul_assoc]

theorem val_lt {l : List Int} (h : Wf l) : val l < 1000000000 ^ l.length := by
  induction l with
  | nil => simp [val]
  | cons x r ih =>
    have h1 := ih h.tail
    have h2 := h.head
    simp only [val, List.length_cons, Int.pow_succ]
    omega

theorem val_replicate (n : Nat) : val (List.replicate n 0) = 0 := by
  induction n with
  | zero => rfl
  | succ n ih => simp [List.replicate_succ, val, ih]

/-- The canonical list. -/
def lim (n : Nat) : List Int := if h : n = 0 then [] else ((n % 1000000000 : Nat) : Int) :: lim (n / 1000000000)
decreasing_by exact Nat.div_lt_self (Nat.pos_of_ne_zero h) (by decide)

theorem lim_zero : lim 0 = [] := by rw [lim]; simp

theorem lim_pos {n : Nat} (h : n ≠ 0) : lim n = ((n % 1000000000 : Nat) : Int) :: lim (n / 1000000000) := by rw [lim, dif_neg h]

theorem val_lim (n : Nat) : val (lim n) = n := by
  induction n using Nat.strongRecOn with
  | _ n ih =>
    by_cases h : n = 0
    · subst h; rw [lim_zero]; rfl
    · rw [lim_pos h, val, ih _ (Nat.div_lt_self (Nat.pos_of_ne_zero h) (by decide))]
      omega

theorem Wf_lim (n : Nat) : Wf (lim n) := by
  induction n using Nat.strongRecOn with
  | _ n ih =>
    by_cases h : n = 0
    · subst h; rw [lim_zero]; exact Wf.nil
    · rw [lim_pos h]
      exact Wf.cons (by omega) (by omega) (ih _ (Nat.div_lt_self (Nat.pos_of_ne_zero h) (by decide)))

/-- No zero at the end. -/
def Nm : List Int → Prop
  | [] => True
  | [x] => x ≠ 0
  | _ :: r => Nm r

theorem Nm.tail {x y : Int} {r : List Int} (h : Nm (x :: y :: r)) : Nm (y :: r) := h

theorem val_pos : ∀ {l : List Int}, Wf l → Nm l → l ≠ [] → 0 < val l
  | [], _, _, h => absurd rfl h
  | [x], hw, hn, _ => by
    have := hw.head
    have hn : x ≠ 0 := hn
    simp only [val]
    omega
  | x :: y :: r, hw, hn, _ => by
    have h1 := val_pos hw.tail hn.tail (by simp)
    have h2 := hw.head
    rw [val]
    omega

theorem lim_val : ∀ {l : List Int}, Wf l → Nm l → lim (val l).toNat = l
  | [], _, _ => lim_zero
  | x :: r, hw, hn => by
    have hp := val_pos hw hn (by simp)
    have h2 := hw.head
    have h3 := val_nonneg hw.tail
    rw [lim_pos (by omega)]
    have e1 : (((val (x :: r)).toNat % 1000000000 : Nat) : Int) = x := by
      simp only [val] at hp ⊢
      omega
    have e2 : (val (x :: r)).toNat / 1000000000 = (val r).toNat := by
      simp only [val] at hp ⊢
      omega
    rw [e1, e2]
    congr 1
    cases r with
    | nil => exact lim_zero
    | cons y r => exact lim_val hw.tail hn.tail

theorem Nm_lim (n : Nat) : Nm (lim n) := by
  induction n using Nat.strongRecOn with
  | _ n ih =>
    by_cases h : n = 0
    · subst h; rw [lim_zero]; trivial
    · rw [lim_pos h]
      have hlt := Nat.div_lt_self (Nat.pos_of_ne_zero h) (show 1 < 1000000000 by decide)
      by_cases h2 : n / 1000000000 = 0
      · rw [h2, lim_zero]
        show ((n % 1000000000 : Nat) : Int) ≠ 0
        omega
      · have := ih _ hlt
        rw [lim_pos h2] at this ⊢
        exact this

/-- The list without zeros at the end is the canonical one. -/
theorem take_lim {l : List Int} (hw : Wf l) {n : Nat} (hn : n ≤ l.length) (hz : ∀ i, n ≤ i → i < l.length → l.getD i 0 = 0) (hl : 0 < n → l.getD (n - 1) 0 ≠ 0) : l.take n = lim (val l).toNat := by
  have hz2 : ∀ (r : List Int), (∀ i, i < r.length → r.getD i 0 = 0) → val r = 0 := by
    intro r
    induction r with
    | nil => intro _; rfl
    | cons x r ih =>
      intro h
      have h0 := h 0 (by simp)
      have h1 := ih fun i hi => by have := h (i + 1) (by simpa using hi); simpa using this
      simp only [List.getD_cons_zero] at h0
      simp [val, h0, h1]
  have hv : val l = val (l.take n) := by
    conv => lhs; rw [← List.take_append_drop n l]
    rw [val_append, hz2 (l.drop n) fun i hi => ?_]
    · simp
    · have := hz (n + i) (by omega) (by simp at hi; omega)
      simpa [List.getD_eq_getElem?_getD] using this
  have hNm : ∀ (r : List Int), (r ≠ [] → r.getD (r.length - 1) 0 ≠ 0) → Nm r := by
    intro r
    induction r with
    | nil => intro _; trivial
    | cons x r ih =>
      intro h
      cases r with
      | nil =>
        have := h (by simp)
        show x ≠ 0
        simpa using this
      | cons y r =>
        show Nm (y :: r)
        refine ih fun _ => ?_
        have := h (by simp)
        simpa using this
  have hn2 : Nm (l.take n) := by
    refine hNm _ fun hne => ?_
    have hlen : (l.take n).length = n := by simp; omega
    have hnp : 0 < n := by
      rcases Nat.eq_zero_or_pos n with e | e
      · subst e; exact absurd (by simp) hne
      · exact e
    rw [hlen]
    have := hl hnp
    rw [List.getD_eq_getElem?_getD] at this ⊢
    rw [List.getElem?_take_of_lt (by omega)]
    exact this
  rw [hv]
  exact (lim_val (hw.take n) hn2).symm

theorem val_take_succ (a : List Int) (i : Nat) : val (a.take (i + 1)) = val (a.take i) + 1000000000 ^ i * a.getD i 0 := by
  rcases Nat.lt_or_ge i a.length with h | h
  · rw [List.take_succ_eq_append_getElem h, val_append, List.getD_eq_getElem?_getD, List.getElem?_eq_getElem h]
    simp [val, List.length_take, Nat.min_eq_left (Nat.le_of_lt h)]
  · rw [List.take_of_length_le (by omega), List.take_of_length_le h, getD_big h]
    simp

theorem val_set {r : List Int} {i : Nat} (h : i < r.length) (v : Int) : val (r.set i v) = val r + 1000000000 ^ i * (v - r.getD i 0) := by
  induction r generalizing i with
  | nil => simp at h
  | cons x r ih =>
    cases i with
    | zero => simp [val]; omega
    | succ i =>
      have := ih (i := i) (by simpa using h)
      simp only [List.set_cons_succ, val, this, List.getD_cons_succ, Int.pow_succ]
      grind

theorem powB (i : Nat) : (1000000000 : Int) ^ (i + 1) = 1000000000 ^ i * 1000000000 := Int.pow_succ ..

theorem powB_pos (i : Nat) : (0 : Int) < 1000000000 ^ i := Int.pow_pos (by decide)

theorem val_take_all {a : List Int} {i : Nat} (h : a.length ≤ i) : val (a.take i) = val a := by rw [List.take_of_length_le h]

/-- One limb of a sum. -/
theorem add_limb {P c x y s V : Int} (hs : s = c + x + y) : P * (s % 1000000000) + P * 1000000000 * (s / 1000000000) + V = V + P * c + P * x + P * y := by
  have h : s % 1000000000 + 1000000000 * (s / 1000000000) = s := by omega
  grind

/-- One limb of a product. -/
theorem mul_limb {P c x y r s V : Int} (hs : s = c + x * y + r) : V + P * (s % 1000000000 - r) + P * 1000000000 * (s / 1000000000) = V + P * c + P * (x * y) := by
  have h : s % 1000000000 + 1000000000 * (s / 1000000000) = s := by omega
  grind

theorem mul_bound {c x y r : Int} (hc : 0 ≤ c) (hc' : c < 1000000000) (hx : 0 ≤ x) (hx' : x < 1000000000) (hy : 0 ≤ y) (hy' : y < 1000000000) (hr : 0 ≤ r) (hr' : r < 1000000000) :
    0 ≤ x * y ∧ x * y ≤ 999999998000000001 ∧ 0 ≤ c + x * y + r ∧ c + x * y + r < 1000000000000000000 := by
  have h1 := Int.mul_le_mul (show x ≤ 999999999 by omega) (show y ≤ 999999999 by omega) hy (by decide)
  have h2 := Int.mul_nonneg hx hy
  have h3 : (999999999 : Int) * 999999999 = 999999998000000001 := by decide
  rw [h3] at h1
  omega

theorem tdivB {n : Int} (h : 0 ≤ n) : n.tdiv 1000000000 = n / 1000000000 := Int.tdiv_eq_ediv_of_nonneg h

theorem tmodB {n : Int} (h : 0 ≤ n) : n.tmod 1000000000 = n % 1000000000 := Int.tmod_eq_emod_of_nonneg h

theorem powB_mono {i j : Nat} (h : i ≤ j) : (1000000000 : Int) ^ i ≤ 1000000000 ^ j := by
  induction h with
  | refl => exact Int.le_refl _
  | step h ih =>
    rename_i m
    have := powB_pos m
    rw [powB]
    omega

/-- What the inner loop does: x times b is added from place i on. -/
structure InnerOK (b r : List Int) (i : Nat) (x : Int) (k : Nat) (c : Int) (r' : List Int) : Prop where
  len : r'.length = r.length
  wf : Wf r'
  c0 : 0 ≤ c
  c1 : c < 1000000000
  vl : val r' + 1000000000 ^ (i + k) * c = val r + 1000000000 ^ i * (x * val (b.take k))
  hi : ∀ j, i + k ≤ j → r'.getD j 0 = r.getD j 0

theorem InnerOK.zero {b r : List Int} {i : Nat} {x : Int} (hw : Wf r) : InnerOK b r i x 0 0 r :=
  ⟨rfl, hw, by omega, by omega, by simp [val], fun _ _ => rfl⟩

theorem InnerOK.step {b r : List Int} {i : Nat} {x : Int} {k : Nat} {c : Int} {r' : List Int} (h : InnerOK b r i x k c r') (wb : Wf b) (hx : 0 ≤ x) (hx1 : x < 1000000000) (hk : i + k < r.length) :
    InnerOK b r i x (k + 1) ((c + x * b.getD k 0 + r'.getD (i + k) 0) / 1000000000) (r'.set (i + k) ((c + x * b.getD k 0 + r'.getD (i + k) 0) % 1000000000)) := by
  have xb := wb.getD k
  have xr := h.wf.getD (i + k)
  have hb := mul_bound h.c0 h.c1 hx hx1 xb.1 xb.2 xr.1 xr.2
  have hl := h.len
  refine ⟨by simp [hl], h.wf.set _ (by omega) (by omega), by omega, by omega, ?_, fun j hj => ?_⟩
  · rw [val_set (by omega), val_take_succ, show i + (k + 1) = (i + k) + 1 by omega, powB]
    have e1 := mul_limb (P := 1000000000 ^ (i + k)) (V := val r') (c := c) (x := x) (y := b.getD k 0) (r := r'.getD (i + k) 0) (s := c + x * b.getD k 0 + r'.getD (i + k) 0) rfl
    have e2 : (1000000000 : Int) ^ (i + k) = 1000000000 ^ i * 1000000000 ^ k := Int.pow_add ..
    have e3 := h.vl
    grind
  · rw [getD_set, if_neg (by omega)]
    exact h.hi j (by omega)

/-- The outer loop: a's first i limbs times b. -/
structure OuterOK (a b : List Int) (i : Nat) (r : List Int) : Prop where
  len : r.length = a.length + b.length
  wf : Wf r
  vl : val r = val (a.take i) * val b
  hi : ∀ j, i + b.length ≤ j → r.getD j 0 = 0

theorem OuterOK.zero (a b : List Int) : OuterOK a b 0 (List.replicate (a.length + b.length) 0) :=
  ⟨by simp, Wf.replicate _, by simp [val, val_replicate], fun j _ => by
    rw [List.getD_eq_getElem?_getD, List.getElem?_replicate]
    split <;> rfl⟩

theorem OuterOK.step {a b : List Int} {i : Nat} {r r' : List Int} {c : Int} (h : OuterOK a b i r) (hI : InnerOK b r i (a.getD i 0) b.length c r') (hi : i < a.length) : OuterOK a b (i + 1) (r'.set (i + b.length) c) := by
  have hl := h.len
  have hl' := hI.len
  have h0 : r'.getD (i + b.length) 0 = 0 := by rw [hI.hi _ (Nat.le_refl _), h.hi _ (Nat.le_refl _)]
  refine ⟨by simp [hl', hl], hI.wf.set _ hI.c0 hI.c1, ?_, fun j hj => ?_⟩
  · rw [val_set (by omega), h0, val_take_succ]
    have e1 := hI.vl
    have e2 := h.vl
    rw [val_take_all (Nat.le_refl _)] at e1
    grind
  · rw [getD_set, if_neg (by omega), hI.hi _ (by omega), h.hi _ (by omega)]

theorem lim_eq_nil {n : Nat} : lim n = [] ↔ n = 0 := by
  constructor
  · intro h
    have := val_lim n
    rw [h] at this
    simp only [val] at this
    omega
  · rintro rfl
    exact lim_zero

theorem Nm.last : ∀ {l : List Int}, Nm l → 0 < l.length → l.getD (l.length - 1) 0 ≠ 0
  | [x], h, _ => h
  | x :: y :: r, h, _ => by
    have := Nm.last (l := y :: r) h (by simp)
    simpa using this

theorem castB (m : Nat) : ((1000000000 ^ m : Nat) : Int) = (1000000000 : Int) ^ m := Int.natCast_pow 1000000000 m

theorem lim_length_of {n k : Nat} (h : n < 1000000000 ^ k) : (lim n).length ≤ k := by
  by_cases h0 : n = 0
  · subst h0; rw [lim_zero]; simp
  · have hp : 0 < (lim n).length := by
      rcases Nat.eq_zero_or_pos (lim n).length with q | q
      · exact (h0 (lim_eq_nil.1 (List.eq_nil_of_length_eq_zero q))).elim
      · exact q
    obtain ⟨m, hm⟩ : ∃ m, (lim n).length = m + 1 := ⟨(lim n).length - 1, by omega⟩
    have h1 := (Nm_lim n).last hp
    have h2 := val_take_succ (lim n) m
    rw [← hm, List.take_length, val_lim] at h2
    have h3 := val_nonneg ((Wf_lim n).take m)
    have h4 := (Wf_lim n).getD m
    rw [hm, Nat.add_sub_cancel] at h1
    have h5 : (1000000000 : Int) ^ m ≤ n := by
      have h6 : (1000000000 : Int) ^ m * 1 ≤ 1000000000 ^ m * (lim n).getD m 0 := Int.mul_le_mul_of_nonneg_left (by omega) (Int.le_of_lt (powB_pos m))
      omega
    have h7 : 1000000000 ^ m ≤ n := by rw [← castB] at h5; exact Int.ofNat_le.1 h5
    have h8 : 1000000000 ^ m < 1000000000 ^ k := by omega
    have := (Nat.pow_lt_pow_iff_right (by decide : 1 < 1000000000)).1 h8
    omega

theorem lim_lt (n : Nat) : n < 1000000000 ^ (lim n).length := by
  have := val_lt (Wf_lim n)
  rw [val_lim, ← castB] at this
  exact Int.ofNat_lt.1 this

theorem lim_length_mono {a b : Nat} (h : a ≤ b) : (lim a).length ≤ (lim b).length := lim_length_of (Nat.lt_of_le_of_lt h (lim_lt b))

/-- An integer as the texts hold it. -/
def zl (z : Int) : Bool × List Int := (decide (z < 0), lim z.natAbs)

theorem sub_limb {P c x y V : Int} (t : Int) (h : t = if x - y - c < 0 then 1 else 0) : V + P * ((x - y - c) % 1000000000) - P * 1000000000 * t = V + P * x - P * y - P * c ∨ ¬ (0 ≤ x ∧ x < 1000000000 ∧ 0 ≤ y ∧ y < 1000000000 ∧ 0 ≤ c ∧ c ≤ 1) := by
  by_cases q : 0 ≤ x ∧ x < 1000000000 ∧ 0 ≤ y ∧ y < 1000000000 ∧ 0 ≤ c ∧ c ≤ 1
  · left
    have h2 : (x - y - c) % 1000000000 = x - y - c + 1000000000 * t := by
      rw [h]
      split <;> omega
    rw [h2]
    grind
  · exact .inr q

/-- One round of a difference: what its invariant says. -/
structure SubOK (a b : List Int) (i : Nat) (r : List Int) (c : Int) : Prop where
  wf : Wf r
  c0 : 0 ≤ c
  c1 : c ≤ 1
  v : val (r.take i) - 1000000000 ^ i * c = val (a.take i) - val (b.take i)

theorem SubOK.step {a b r r' : List Int} {i : Nat} {c : Int} (h : SubOK a b i r c) (wa : Wf a) (wb : Wf b) (hr : r'.take i = r.take i) (hw : Wf r') (hd : r'.getD i 0 = (a.getD i 0 - b.getD i 0 - c) % 1000000000) : SubOK a b (i + 1) r' (bor (a.getD i 0 - b.getD i 0 - c)) := by
  refine ⟨hw, (bor_range _).1, (bor_range _).2, ?_⟩
  rw [val_take_succ, val_take_succ, val_take_succ, powB, hr, hd]
  have h1 := wa.getD i
  have h2 := wb.getD i
  have h3 := h.v
  have h4 := sub_limb (P := 1000000000 ^ i) (c := c) (x := a.getD i 0) (y := b.getD i 0) (V := val (r.take i)) (bor (a.getD i 0 - b.getD i 0 - c)) rfl
  rcases h4 with h4 | h4
  · grind
  · exact (h4 ⟨h1.1, h1.2, h2.1, h2.2, h.c0, h.c1⟩).elim

theorem SubOK.done {a b r : List Int} {c : Int} (h : SubOK a b a.length r c) (hr : r.length = a.length) (hb : b.length ≤ a.length) (hle : val b ≤ val a) : val r = val a - val b := by
  have h1 := h.v
  rw [val_take_all (by omega), val_take_all (Nat.le_refl _), val_take_all hb] at h1
  have h2 := val_lt h.wf
  rw [hr] at h2
  have h3 := h.c0
  have h4 := h.c1
  have h5 := powB_pos a.length
  generalize (1000000000 : Int) ^ a.length = P at *
  rcases (show c = 0 ∨ c = 1 by omega) with rfl | rfl
  · omega
  · omega

theorem sgn_natAbs (neg : Bool) (n : Nat) : (sgn neg n).natAbs = n := by
  unfold sgn
  cases neg <;> simp

theorem zl_sgn (neg : Bool) (n : Nat) : zl (sgn neg n) = (neg && decide (0 < (lim n).length), lim n) := by
  unfold zl
  rw [sgn_natAbs]
  congr 1
  unfold sgn
  cases neg
  · simp
  · simp only [if_true, Bool.true_and]
    rw [decide_eq_decide]
    constructor
    · intro h
      rcases Nat.eq_zero_or_pos (lim n).length with q | q
      · have := lim_eq_nil.1 (List.eq_nil_of_length_eq_zero q)
        omega
      · exact q
    · intro h
      have : n ≠ 0 := by
        rintro rfl
        rw [lim_zero] at h
        simp at h
      omega

/-- So long at most. -/
def Sz (k : Nat) (z : Int) : Prop := (lim z.natAbs).length ≤ k

theorem lim_add_length (a b : Nat) : (lim (a + b)).length ≤ max (lim a).length (lim b).length + 1 := by
  refine lim_length_of ?_
  have h1 := lim_lt a
  have h2 := lim_lt b
  have h3 : 1000000000 ^ (lim a).length ≤ 1000000000 ^ max (lim a).length (lim b).length := Nat.pow_le_pow_right (by decide) (Nat.le_max_left ..)
  have h4 : 1000000000 ^ (lim b).length ≤ 1000000000 ^ max (lim a).length (lim b).length := Nat.pow_le_pow_right (by decide) (Nat.le_max_right ..)
  rw [Nat.pow_succ]
  omega

theorem Sz.add {j k : Nat} {x y : Int} (hx : Sz j x) (hy : Sz k y) : Sz (max j k + 1) (x + y) := by
  have h1 := lim_add_length x.natAbs y.natAbs
  have h2 := lim_length_mono (Int.natAbs_add_le x y)
  unfold Sz at *
  omega

theorem lim_mul_length (a b : Nat) : (lim (a * b)).length ≤ (lim a).length + (lim b).length := by
  refine lim_length_of ?_
  rw [Nat.pow_add]
  have h1 := lim_lt a
  have h2 := lim_lt b
  by_cases hb : b = 0
  · subst hb
    rw [Nat.mul_zero]
    exact Nat.mul_pos (Nat.pow_pos (by decide)) (Nat.pow_pos (by decide))
  · exact Nat.mul_lt_mul_of_lt_of_le h1 (Nat.le_of_lt h2) (Nat.lt_of_le_of_lt (Nat.zero_le _) h2)

theorem Sz.mul {j k : Nat} {x y : Int} (hx : Sz j x) (hy : Sz k y) : Sz (j + k) (x * y) := by
  unfold Sz at *
  rw [Int.natAbs_mul]
  have := lim_mul_length x.natAbs y.natAbs
  omega

theorem Sz.neg {k : Nat} {x : Int} (hx : Sz k x) : Sz k (-x) := by
  unfold Sz at *
  rw [Int.natAbs_neg]
  exact hx

theorem Sz.mono {j k : Nat} {x : Int} (h : Sz j x) (hk : j ≤ k) : Sz k x := Nat.le_trans h hk

theorem Sz.le {k : Nat} {x y : Int} (h : Sz k y) (hx : x.natAbs ≤ y.natAbs) : Sz k x := Nat.le_trans (lim_length_mono hx) h
end M

end Go.Proofs.Rf
/- What the reference's functions on numbers come to: trimmed, sums, differences. -/
namespace Go.Proofs.Rf
open Go Go.RowKit

theorem trim_ind {A B : Type} {f : A → Option (A ⊕ B)} (st : Nat → A) (fin : Nat → B) (l : List Int) (h0 : f (st 0) = some (.inr (fin 0)))
    (hs : ∀ n, n < l.length → f (st (n + 1)) = if (l.getD n 0 == 0) = true then some (.inl (st n)) else some (.inr (fin (n + 1)))) :
    ∃ n : Nat, limL f (st l.length) = some (fin n) ∧ n ≤ l.length ∧ (∀ i, n ≤ i → i < l.length → l.getD i 0 = 0) ∧ (0 < n → l.getD (n - 1) 0 ≠ 0) := by
  have key : ∀ k, k ≤ l.length → (∀ i, k ≤ i → i < l.length → l.getD i 0 = 0) → ∃ n : Nat, limL f (st k) = some (fin n) ∧ n ≤ l.length ∧ (∀ i, n ≤ i → i < l.length → l.getD i 0 = 0) ∧ (0 < n → l.getD (n - 1) 0 ≠ 0) := by
    intro k
    induction k with
    | zero =>
      intro hk hz
      exact ⟨0, by rw [limL_eq, h0], hk, hz, fun h => absurd h (by omega)⟩
    | succ k ih =>
      intro hk hz
      rw [limL_eq, hs k (by omega)]
      by_cases hx : l.getD k 0 = 0
      · rw [if_pos (by rw [hx]; rfl)]
        refine ih (by omega) fun i h1 h2 => ?_
        rcases Nat.eq_or_lt_of_le h1 with q | q
        · rw [← q]; exact hx
        · exact hz i (by omega) h2
      · rw [if_neg (by simpa using hx)]
        exact ⟨k + 1, rfl, hk, hz, fun _ => hx⟩
  exact key l.length (Nat.le_refl _) fun i h1 h2 => absurd h2 (by omega)

open D

theorem L96_spec {neg : Bool} {l : List Int} (hw : Wf l) (hl : l.length < 4611686018427387904) : L96 ((neg, l), ()) = some ((zl (sgn neg (val l).toNat), ()), ()) := by
  obtain ⟨n, h1, h2, h3, h4⟩ := trim_ind (f := S96_2) (fun n => (((), (), (n : Int), ()), ((neg, l, ()), (false, [], ()), ()))) (fun n => (((), (), (n : Int), ()), ((neg, l, ()), (false, [], ()), ()))) l
    (by rw [S96_2_eq]; rfl) (by
      intro n hn
      have hn : n < l.length := hn
      have e : IntKind.i64.wrap (((n + 1 : Nat) : Int) - 1) = (n : Int) := (wi (n := ((n + 1 : Nat) : Int) - 1) (by omega) (by omega)).trans (by omega)
      rw [S96_2_eq, e, if_pos (decide_eq_true (by omega)), if_pos (by omega), if_pos (by omega), Int.toNat_natCast])
  show F96 Lg96_2 ((neg, l), ()) = _
  rw [F96_eq]
  show (limL S96_2 (((), (), (l.length : Int), ()), ((neg, l, ()), (false, [], ()), ()))).bind _ = _
  rw [h1]
  simp only [Option.bind_some, Int.toNat_natCast]
  refine (if_pos (show (0 : Int) ≤ (n : Int) by omega)).trans ?_
  refine (if_pos (show (n : Int) ≤ (l.length : Int) by omega)).trans ?_
  rw [zl_sgn]
  have ht := take_lim hw h2 h3 h4
  have hlen : (l.take n).length = n := by simp; omega
  rw [← ht, hlen]
  by_cases h0 : n = 0
  · subst h0
    rw [if_pos (by rfl)]
    simp
  · rw [if_neg (by simpa using h0), decide_eq_true (by omega), Bool.and_true]

theorem L112_spec {a : List Int} (i : Nat) : L112 (a, (i : Int), ()) = some ((a.getD i 0, ()), ()) := by
  show F112 (a, (i : Int), ()) = _
  rw [F112_eq]
  simp only [decide_eq_true_eq, Int.ofNat_lt, Int.toNat_natCast]
  by_cases h : i < a.length
  · simp only [h, if_true, show (0 : Int) ≤ (i : Int) by omega]
  · simp only [h, if_false, getD_big (show a.length ≤ i by omega)]

/-! ### Sums -/
theorem S109_step {a b r : List Int} {c : Int} {i : Nat} (wa : Wf a) (wb : Wf b) (hc : 0 ≤ c) (hc1 : c ≤ 1) (hr : r.length = i) (hi : i < a.length ∨ i < b.length ∨ c > 0) (hb : i < 2000000000) :
    S109_4 L112 ((a, b, (), c, (i : Int), ()), (r, ())) = some (.inl ((a, b, (), (c + a.getD i 0 + b.getD i 0) / 10, ((i + 1 : Nat) : Int), ()), (r ++ [(c + a.getD i 0 + b.getD i 0) % 10], ()))) := by
  have xa := wa.getD i
  have xb := wb.getD i
  rw [S109_4_eq]
  have qa : L112 (a, (i : Int), ()) = _ := L112_spec i
  have qb : L112 (b, (i : Int), ()) = _ := L112_spec i
  rw [qa, qb]
  simp only [Option.bind_some]
  generalize a.getD i 0 = A at *
  generalize b.getD i 0 = B at *
  have e1 : IntKind.i64.wrap (A + B) = A + B := wi (by omega) (by omega)
  have e2 : IntKind.i64.wrap (A + B + c) = c + A + B := by rw [wi (by omega) (by omega)]; omega
  have e6 : IntKind.i64.wrap ((i : Int) + 1) = ((i + 1 : Nat) : Int) := by rw [wi (by omega) (by omega)]; omega
  have t1 := tdivB (n := c + A + B) (by omega)
  have u1 := tmodB (n := c + A + B) (by omega)
  have e7 : IntKind.i64.wrap ((c + A + B) / 10) = (c + A + B) / 10 := wi (by omega) (by omega)
  have hlen : ∀ x : Int, r.length + [x].length ≤ 4294967296 := fun x => by simp; omega
  simp only [e1, e2, e6, t1, u1, e7, hlen, if_true, decide_eq_true_eq, Int.ofNat_lt]
  by_cases h1 : i < a.length
  · rw [if_pos h1]
  · rw [if_neg h1]
    by_cases h2 : i < b.length
    · rw [if_pos h2]
    · rw [if_neg h2, if_pos (by omega)]

theorem L109_spec {a b : List Int} (wa : Wf a) (wb : Wf b) (sa : a.length < 1000000000) (sb : b.length < 1000000000) :
    ∃ r, L109 (a, b, ()) = some ((r, ()), ()) ∧ Wf r ∧ val r = val a + val b ∧ r.length ≤ max a.length b.length + 1 := by
  obtain ⟨z, h1, r, rfl, hw, hv, hlen⟩ := limL_ind (f := S109_4 L112) (fun x => max a.length b.length + 1 - x.1.2.2.2.2.1.toNat)
    (fun x => ∃ (c : Int) (i : Nat) (r : List Int), x = ((a, b, (), c, (i : Int), ()), (r, ())) ∧ r.length = i ∧ Wf r ∧ 0 ≤ c ∧ c ≤ 1 ∧ i ≤ max a.length b.length + 1 ∧ (i = max a.length b.length + 1 → c = 0) ∧ val r + 10 ^ i * c = val (a.take i) + val (b.take i))
    (fun z => ∃ (r : List Int), z = (((), ()), (r, ())) ∧ Wf r ∧ val r = val a + val b ∧ r.length ≤ max a.length b.length + 1) (by
    rintro x ⟨c, i, r, rfl, hr, hw, hc, hc1, hi, hci, hv⟩
    by_cases hd : i < a.length ∨ i < b.length ∨ c > 0
    · left
      have xa := wa.getD i
      have xb := wb.getD i
      have hil : i ≤ max a.length b.length := by
        rcases hd with q | q | q
        · omega
        · omega
        · have : i ≠ max a.length b.length + 1 := fun e => by have := hci e; omega
          omega
      refine ⟨_, S109_step wa wb hc hc1 hr hd (by omega), ⟨_, i + 1, _, rfl, by simp [hr], ?_, by omega, by omega, by omega, ?_, ?_⟩, ?_⟩
      · exact hw.append (Wf.cons (by omega) (by omega) Wf.nil)
      · intro e
        have ga : a.getD i 0 = 0 := getD_big (by omega)
        have gb : b.getD i 0 = 0 := getD_big (by omega)
        rw [ga, gb]
        omega
      · rw [val_append, hr, val_take_succ, val_take_succ, powB]
        have := add_limb (P := 10 ^ i) (V := val r) (s := c + a.getD i 0 + b.getD i 0) rfl
        simp only [val]
        grind
      · simp only [Int.toNat_natCast]; omega
    · right
      have q1 : ¬ i < a.length := fun q => hd (.inl q)
      have q2 : ¬ i < b.length := fun q => hd (.inr (.inl q))
      have q3 : ¬ c > 0 := fun q => hd (.inr (.inr q))
      have hc0 : c = 0 := by omega
      refine ⟨(((), ()), (r, ())), ?_, r, rfl, hw, ?_, by omega⟩
      · rw [S109_4_eq]
        simp only [decide_eq_true_eq, Int.ofNat_lt, q1, q2, q3, if_false]
      · rw [hc0, Int.mul_zero, Int.add_zero] at hv
        rw [hv, val_take_all (by omega), val_take_all (by omega)]) ((a, b, (), 0, ((0 : Nat) : Int), ()), ([], ())) ⟨0, 0, [], rfl, rfl, Wf.nil, by omega, by omega, by omega, fun _ => rfl, by simp [val]⟩
  refine ⟨r, ?_, hw, hv, hlen⟩
  show F109 Lg109_4 (a, b, ()) = _
  rw [F109_eq]
  show (limL (S109_4 L112) _).bind _ = _
  rw [show limL (S109_4 L112) ((a, b, (), 0, 0, ()), [], ()) = _ from h1]
  rfl

/-! ### Comparing -/
theorem val_above {a b : List Int} {k : Nat} (h : ∀ j, k ≤ j → a.getD j 0 = b.getD j 0) : ∀ m, k ≤ m → val (b.take m) - val (a.take m) = val (b.take k) - val (a.take k) := by
  intro m hm
  induction hm with
  | refl => rfl
  | @step m hm ih =>
    have hm : k ≤ m := hm
    rw [Nat.succ_eq_add_one, val_take_succ, val_take_succ, h m hm]
    omega

theorem val_lt_pow_take {a : List Int} (wa : Wf a) (k : Nat) : val (a.take k) < 10 ^ k := by
  have h1 := val_lt (wa.take k)
  have h2 := powB_mono (i := (a.take k).length) (j := k) (by simp; omega)
  omega

theorem lt_above {a b : List Int} (wa : Wf a) (wb : Wf b) {k : Nat} (h : ∀ j, k + 1 ≤ j → a.getD j 0 = b.getD j 0) (hk : a.getD k 0 < b.getD k 0) : val a < val b := by
  have h1 := val_above h (max (max a.length b.length) (k + 1)) (by omega)
  rw [val_take_all (a := a) (by omega), val_take_all (a := b) (by omega), val_take_succ, val_take_succ] at h1
  have h2 := val_lt_pow_take wa k
  have h3 := val_nonneg (wb.take k)
  have h4 : (10 : Int) ^ k * (a.getD k 0 + 1) ≤ 10 ^ k * b.getD k 0 := Int.mul_le_mul_of_nonneg_left (by omega) (Int.le_of_lt (powB_pos k))
  rw [Int.mul_add, Int.mul_one] at h4
  omega

/-- The sign of a difference of integers. -/
def sgi (a b : Int) : Int := if a < b then -1 else if a = b then 0 else 1

theorem L110_spec {a b : List Int} (wa : Wf a) (wb : Wf b) (sa : a.length < 1000000000) (sb : b.length < 1000000000) : L110 (a, b, ()) = some ((sgi (val a) (val b), ()), ()) := by
  obtain ⟨z, h1, hz⟩ := limL_ind (f := S110_2 L112) (fun x => (x.1.2.2.1 + 1).toNat)
    (fun x => ∃ k : Nat, x = ((a, b, (k : Int) - 1, ()), ()) ∧ k ≤ max a.length b.length ∧ ∀ j, k ≤ j → a.getD j 0 = b.getD j 0)
    (fun z => (z = .inl ((-1, ()), ()) ∧ val a < val b) ∨ (z = .inl ((1, ()), ()) ∧ val b < val a) ∨ (z = .inr ((), ()) ∧ val a = val b)) (by
    rintro x ⟨k, rfl, hk, he⟩
    rcases Nat.eq_zero_or_pos k with rfl | hp
    · right
      refine ⟨_, by rw [S110_2_eq]; exact if_neg (by simp), .inr (.inr ⟨rfl, ?_⟩)⟩
      have h := val_above he (max a.length b.length) (by omega)
      rw [val_take_all (a := a) (by omega), val_take_all (a := b) (by omega)] at h
      simp [val] at h
      omega
    · obtain ⟨k, rfl⟩ : ∃ k', k = k' + 1 := ⟨k - 1, by omega⟩
      have e1 : ((k + 1 : Nat) : Int) - 1 = (k : Int) := by omega
      have p1 : (k : Int) ≥ 0 := by omega
      have e2 : IntKind.i64.wrap ((k : Int) - 1) = (k : Int) - 1 := wi (by omega) (by omega)
      have qa : L112 (a, (k : Int), ()) = _ := L112_spec k
      have qb : L112 (b, (k : Int), ()) = _ := L112_spec k
      rw [e1, S110_2_eq, if_pos (decide_eq_true p1), qa, qb]
      simp only [Option.bind_some, e2]
      by_cases h2 : a.getD k 0 = b.getD k 0
      · rw [if_neg (by rw [h2]; simp)]
        refine .inl ⟨_, rfl, ⟨k, rfl, by omega, fun j hj => ?_⟩, by simp only; omega⟩
        rcases Nat.eq_or_lt_of_le hj with q | q
        · rw [← q]; exact h2
        · exact he j q
      · rw [if_pos (by simpa using h2)]
        by_cases h3 : a.getD k 0 < b.getD k 0
        · rw [if_pos (decide_eq_true h3)]
          exact .inr ⟨_, rfl, .inl ⟨rfl, lt_above wa wb he h3⟩⟩
        · rw [if_neg (by simpa using h3)]
          exact .inr ⟨_, rfl, .inr (.inl ⟨rfl, lt_above wb wa (fun j hj => (he j hj).symm) (by omega)⟩)⟩) ((a, b, ((max a.length b.length : Nat) : Int) - 1, ()), ()) ⟨_, rfl, Nat.le_refl _, fun j hj => by rw [getD_big (by omega), getD_big (by omega)]⟩
  show F110 Lg110_2 (a, b, ()) = _
  have em : IntKind.i64.wrap (imax (a.length : Int) (b.length : Int) - 1) = ((max a.length b.length : Nat) : Int) - 1 := by
    have : imax (a.length : Int) (b.length : Int) = ((max a.length b.length : Nat) : Int) := by
      unfold imax
      split <;> omega
    rw [this, wi (by omega) (by omega)]
  rw [F110_eq, em]
  show (limL (S110_2 L112) _).bind _ = _
  rw [h1]
  unfold sgi
  rcases hz with ⟨rfl, h⟩ | ⟨rfl, h⟩ | ⟨rfl, h⟩
  · rw [if_pos h]; rfl
  · rw [if_neg (by omega), if_neg (by omega)]; rfl
  · rw [if_neg (by omega), if_pos h]; rfl

/-! ### Differences -/
theorem S111_step {a b r : List Int} {c : Int} {i : Nat} (wa : Wf a) (wb : Wf b) (hc : 0 ≤ c) (hc1 : c ≤ 1) (hr : r.length = i) (hi : i < a.length) (hs : a.length < 1000000000) :
    S111_4 L112 ((a, b, (), c, (i : Int), ()), (r, ())) = some (.inl ((a, b, (), bor (a.getD i 0 - b.getD i 0 - c), ((i + 1 : Nat) : Int), ()), (r ++ [(a.getD i 0 - b.getD i 0 - c) % 10], ()))) := by
  have xa := wa.getD i
  have xb := wb.getD i
  have qa : L112 (a, (i : Int), ()) = _ := L112_spec i
  have qb : L112 (b, (i : Int), ()) = _ := L112_spec i
  rw [S111_4_eq, qa, qb]
  simp only [Option.bind_some, decide_eq_true_eq, Int.ofNat_lt, hi, if_true]
  generalize a.getD i 0 = A at *
  generalize b.getD i 0 = B at *
  have e1 : IntKind.i64.wrap (A - B) = A - B := wi (by omega) (by omega)
  have e2 : IntKind.i64.wrap (A - B - c) = A - B - c := wi (by omega) (by omega)
  have e3 : IntKind.i64.wrap (A - B - c + 10) = A - B - c + 10 := wi (by omega) (by omega)
  have e6 : IntKind.i64.wrap ((i : Int) + 1) = ((i + 1 : Nat) : Int) := by rw [wi (by omega) (by omega)]; omega
  have hlen : ∀ x : Int, r.length + [x].length ≤ 4294967296 := fun x => by simp; omega
  simp only [e1, e2, e3, e6, hlen, if_true]
  unfold bor
  by_cases h3 : A - B - c < 0
  · rw [if_pos h3, if_pos h3, show (A - B - c) % 10 = A - B - c + 10 by omega]
  · rw [if_neg h3, if_neg h3, show (A - B - c) % 10 = A - B - c by omega]

theorem L111_spec {a b : List Int} (wa : Wf a) (wb : Wf b) (hl : b.length ≤ a.length) (hle : val b ≤ val a) (hs : a.length < 1000000000) :
    ∃ r, L111 (a, b, ()) = some ((r, ()), ()) ∧ Wf r ∧ val r = val a - val b ∧ r.length = a.length := by
  obtain ⟨z, h1, r, rfl, c, hr, hok⟩ := limL_ind (f := S111_4 L112) (fun x => a.length - x.1.2.2.2.2.1.toNat)
    (fun x => ∃ (c : Int) (i : Nat) (r : List Int), x = ((a, b, (), c, (i : Int), ()), (r, ())) ∧ r.length = i ∧ i ≤ a.length ∧ SubOK a b i r c)
    (fun z => ∃ r, z = (((), ()), (r, ())) ∧ ∃ c, r.length = a.length ∧ SubOK a b a.length r c) (by
    rintro x ⟨c, i, r, rfl, hr, hi, hok⟩
    by_cases hd : i < a.length
    · left
      have hz := Int.emod_nonneg (a.getD i 0 - b.getD i 0 - c) (show (10 : Int) ≠ 0 by decide)
      have hz' := Int.emod_lt_of_pos (a.getD i 0 - b.getD i 0 - c) (show (0 : Int) < 10 by decide)
      refine ⟨_, S111_step wa wb hok.c0 hok.c1 hr hd hs, ⟨_, i + 1, _, rfl, by simp [hr], by omega, hok.step wa wb ?_ (hok.wf.append (Wf.cons hz hz' Wf.nil)) ?_⟩, by simp only [Int.toNat_natCast]; omega⟩
      · rw [List.take_append_of_le_length (by omega)]
      · rw [List.getD_eq_getElem?_getD, List.getElem?_append_right (by omega), hr, Nat.sub_self]
        rfl
    · right
      obtain rfl : i = a.length := by omega
      refine ⟨_, ?_, r, rfl, c, hr, hok⟩
      rw [S111_4_eq, if_neg (by simp)]) ((a, b, (), 0, 0, ()), ([], ())) ⟨0, 0, _, rfl, rfl, by omega, Wf.nil, by omega, by omega, by simp [val]⟩
  refine ⟨r, ?_, hok.wf, hok.done hr hl hle, hr⟩
  show F111 Lg111_4 (a, b, ()) = _
  rw [F111_eq]
  show (limL (S111_4 L112) _).bind _ = _
  rw [h1]
  rfl

theorem L68_spec {x y : Int} (hx : Sz 1000000 x) (hy : Sz 1000000 y) : L68 (zl x, zl y, ()) = some ((zl (x + y), ()), ()) := by
  unfold Sz at hx hy
  show F68 L96 L109 L110 L111 ((decide (x < 0), lim x.natAbs), (decide (y < 0), lim y.natAbs), ()) = _
  rw [F68_eq]
  by_cases hs : decide (x < 0) = decide (y < 0)
  · have hs' := decide_eq_decide.1 hs
    rw [if_pos (by rw [hs]; simp)]
    obtain ⟨r, h1, hw, hv, hl⟩ := L109_spec (Wf_lim x.natAbs) (Wf_lim y.natAbs) (by omega) (by omega)
    rw [h1]
    simp only [Option.bind_some]
    rw [L96_spec hw (by omega), hv, val_lim, val_lim]
    simp only [Option.bind_some]
    have e2 : sgn (decide (x < 0)) ((x.natAbs : Int) + (y.natAbs : Int)).toNat = x + y := by
      unfold sgn
      by_cases h : x < 0
      · rw [decide_eq_true h, if_pos rfl]; omega
      · rw [decide_eq_false h, if_neg (by decide)]; omega
    rw [e2]
  · have hs' : ¬ (x < 0 ↔ y < 0) := fun q => hs (decide_eq_decide.2 q)
    rw [if_neg (by simpa using hs), L110_spec (Wf_lim _) (Wf_lim _) (by omega) (by omega), val_lim, val_lim]
    simp only [Option.bind_some]
    by_cases hlt : x.natAbs < y.natAbs
    · have p : sgi (x.natAbs : Int) (y.natAbs : Int) = -1 := if_pos (by omega)
      rw [p, if_neg (by decide)]
      obtain ⟨r, h1, hw, hv, hl⟩ := L111_spec (Wf_lim y.natAbs) (Wf_lim x.natAbs) (lim_length_mono (by omega)) (by rw [val_lim, val_lim]; omega) (by omega)
      rw [h1]
      simp only [Option.bind_some]
      rw [L96_spec hw (by omega), hv, val_lim, val_lim]
      simp only [Option.bind_some]
      have e2 : sgn (decide (y < 0)) ((y.natAbs : Int) - (x.natAbs : Int)).toNat = x + y := by
        unfold sgn
        by_cases h : y < 0
        · rw [decide_eq_true h, if_pos rfl]; omega
        · rw [decide_eq_false h, if_neg (by decide)]; omega
      rw [e2]
    · have p : sgi (x.natAbs : Int) (y.natAbs : Int) ≥ 0 := by unfold sgi; rw [if_neg (by omega)]; split <;> omega
      rw [if_pos (decide_eq_true p)]
      obtain ⟨r, h1, hw, hv, hl⟩ := L111_spec (Wf_lim x.natAbs) (Wf_lim y.natAbs) (lim_length_mono (by omega)) (by rw [val_lim, val_lim]; omega) (by omega)
      rw [h1]
      simp only [Option.bind_some]
      rw [L96_spec hw (by omega), hv, val_lim, val_lim]
      simp only [Option.bind_some]
      have e2 : sgn (decide (x < 0)) ((x.natAbs : Int) - (y.natAbs : Int)).toNat = x + y := by
        unfold sgn
        by_cases h : x < 0
        · rw [decide_eq_true h, if_pos rfl]; omega
        · rw [decide_eq_false h, if_neg (by decide)]; omega
      rw [e2]

end Go.Proofs.Rf
