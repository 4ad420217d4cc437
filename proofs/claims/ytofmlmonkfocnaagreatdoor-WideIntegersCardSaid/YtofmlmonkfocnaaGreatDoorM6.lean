/- Texts put together: W24, W25, W26, W27, Gx01, Dr01. -/
import Derived.Test.YtofmlmonkfocnaaGreatDoorM5
import Derived.Test.YtofmlmonkfocnaaGreatDoorRows
import Derived.WalkKit
import Derived.ProofKit
import Derived.OpenShut
import Derived.LaidMore
import Derived.LaidSub
import Derived.ChangeArms
import Derived.Lib.LaidU8
import Derived.Lib.LaidTab
import Derived.Lib.ItoaNum
import Derived.Stop.Joined
import Derived.Lay
/- The program's quotients and remainders. -/
namespace Go.Proofs.Rf
open Go Go.RowKit M

theorem fold_desc_ex {A B : Type} {l : List Int} {f : Int × Int → A → Option (A ⊕ B)} (P : Nat → A → Prop) (h : ∀ j, j < l.length → ∀ x, P (j + 1) x → ∃ y, f ((j : Int), l.getD j 0) x = some (.inl y) ∧ P j y) :
    ∀ k, k ≤ l.length → ∀ x, P k x → ∃ y, foldR f (desc l k) x = some (.inl y) ∧ P 0 y
  | 0, _, x, hx => ⟨x, rfl, hx⟩
  | k + 1, hk, x, hx => by
    obtain ⟨y, h1, h2⟩ := h k (by omega) x hx
    obtain ⟨z, h3, h4⟩ := fold_desc_ex P h k (by omega) y h2
    refine ⟨z, ?_, h4⟩
    show foldR f (((k : Int), l.getD k 0) :: desc l k) x = _
    rw [foldR_cons h1]
    exact h3

/-- The search of a digit of a quotient. -/
abbrev X117 (i : Int) (lo hi : Nat) (B R : Nat) (w : List Int) : sh117_8.den := (((), (), (), i, (lo : Int), (hi : Int), ()), ((lim B, ()), ((), ()), (lim R, ()), w, ()))

theorem S117_8_step {i : Int} {B R lo hi : Nat} {w : List Int} (hB : 0 < B) (hBl : (lim B).length < 1000000) (hRl : (lim R).length < 1000000) (h1 : lo < hi) (h2 : hi < 1000000000) :
    S117_8 L65 L94 (X117 i lo hi B R w) = some (.inl (if lo + (hi - lo + 1) / 2 ≤ R / B then X117 i (lo + (hi - lo + 1) / 2) hi B R w else X117 i lo (lo + (hi - lo + 1) / 2 - 1) B R w)) := by
  obtain ⟨m, hm⟩ : ∃ m, lo + (hi - lo + 1) / 2 = m := ⟨_, rfl⟩
  have e1 : IntKind.u32.wrap ((lo : Int) + IntKind.u32.wrap ((IntKind.u32.wrap (IntKind.u32.wrap ((hi : Int) - (lo : Int)) + 1)).tdiv 2)) = (m : Int) := by
    rw [w32 (n := (hi : Int) - (lo : Int)) (by omega) (by omega), w32 (n := (hi : Int) - (lo : Int) + 1) (by omega) (by omega), Int.tdiv_eq_ediv_of_nonneg (by omega), w32 (n := ((hi : Int) - (lo : Int) + 1) / 2) (by omega) (by omega), w32 (by omega) (by omega)]
    omega
  have e2 : IntKind.u32.wrap ((m : Int) - 1) = ((m - 1 : Nat) : Int) := by rw [w32 (by omega) (by omega)]; omega
  have h65 := L65_lim (n := B) (f := m) (by omega) (by omega)
  have hlm : (lim (B * m)).length < 1000000000 := by
    have h3 := lim_mul_length B m
    have h4 := lim_length_of (n := m) (k := 1) (by omega)
    omega
  show S117_8 L65 L94 (((), (), (), i, (lo : Int), (hi : Int), ()), ((lim B, ()), ((), ()), (lim R, ()), w, ())) = _
  rw [S117_8_eq, if_pos (decide_eq_true (by omega)), e1, h65, hm]
  simp only [Option.bind_some]
  rw [L94_spec hlm (by omega), e2]
  simp only [Option.bind_some, sgi_le_iff]
  have hiff : ((B * m : Nat) : Int) ≤ (R : Int) ↔ m ≤ R / B := by rw [Nat.le_div_iff_mul_le hB, Nat.mul_comm]; omega
  by_cases h : m ≤ R / B
  · rw [if_pos (decide_eq_true (hiff.2 h)), if_pos h]
  · rw [if_neg (by rw [decide_eq_true_eq]; exact fun q => h (hiff.1 q)), if_neg h]

theorem S117_8_spec {i : Int} {B R : Nat} {w : List Int} (hB : 0 < B) (hBl : (lim B).length < 1000000) (hRl : (lim R).length < 1000000) (hq : R / B < 1000000000) :
    Lg117_8 (((), (), (), i, 0, 999999999, ()), ((lim B, ()), ((), ()), (lim R, ()), w, ())) = some (((), (), (), i, ((R / B : Nat) : Int), ()), ((lim B, ()), ((), ()), (lim R, ()), w, ())) := by
  obtain ⟨z, h1, rfl⟩ := limL_ind (f := S117_8 L65 L94) (fun x => (x.1.2.2.2.2.2.1 - x.1.2.2.2.2.1).toNat)
    (fun x => ∃ lo hi : Nat, x = X117 i lo hi B R w ∧ lo ≤ R / B ∧ R / B ≤ hi ∧ hi < 1000000000)
    (fun z => z = (((), (), (), i, ((R / B : Nat) : Int), ()), ((lim B, ()), ((), ()), (lim R, ()), w, ()))) (by
    rintro x ⟨lo, hi, rfl, q1, q2, q3⟩
    by_cases hd : lo < hi
    · left
      refine ⟨_, S117_8_step hB hBl hRl hd q3, ?_, ?_⟩
      · by_cases h : lo + (hi - lo + 1) / 2 ≤ R / B
        · rw [if_pos h]
          exact ⟨_, _, rfl, h, q2, q3⟩
        · rw [if_neg h]
          exact ⟨_, _, rfl, q1, by omega, by omega⟩
      · by_cases h : lo + (hi - lo + 1) / 2 ≤ R / B
        · rw [if_pos h]
          show ((hi : Int) - ((lo + (hi - lo + 1) / 2 : Nat) : Int)).toNat < ((hi : Int) - (lo : Int)).toNat
          omega
        · rw [if_neg h]
          show (((lo + (hi - lo + 1) / 2 - 1 : Nat) : Int) - (lo : Int)).toNat < ((hi : Int) - (lo : Int)).toNat
          omega
    · right
      refine ⟨_, ?_, rfl⟩
      show S117_8 L65 L94 (((), (), (), i, (lo : Int), (hi : Int), ()), ((lim B, ()), ((), ()), (lim R, ()), w, ())) = _
      rw [S117_8_eq, if_neg (by rw [decide_eq_true_eq]; omega)]
      obtain rfl : lo = R / B := by omega
      rfl) (X117 i 0 999999999 B R w) ⟨0, 999999999, rfl, Nat.zero_le _, Nat.le_of_lt_succ hq, by decide⟩
  exact h1

structure DivM (a : List Int) (B : Nat) (k : Nat) (w : List Int) (R : Nat) : Prop where
  len : w.length = a.length
  wf : Wf w
  rest : R < B
  vl : val (a.drop k) = val (w.drop k) * B + R

theorem divM_step {A R B V W : Int} (hV : V = W * B + R) : A + 1000000000 * V = ((A + 1000000000 * R) / B + 1000000000 * W) * B + (A + 1000000000 * R) % B := by
  have h := Int.mul_ediv_add_emod (A + 1000000000 * R) B
  subst hV
  grind

abbrev Z117 (B R : Nat) (w : List Int) : sh117_4.den := (((), (), (), ()), ((lim B, ()), ((), ()), (lim R, ()), w, ()))

theorem S117_4_step {a w : List Int} {B R k : Nat} (hB : 0 < B) (hBl : (lim B).length < 100000) (wa : Wf a) (hk : k < a.length) (h : DivM a B (k + 1) w R) :
    ∃ w' R', S117_4 L65 L101 L116 Lg117_8 ((k : Int), a.getD k 0) (Z117 B R w) = some (.inl (Z117 B R' w')) ∧ DivM a B k w' R' := by
  have xa := wa.getD k
  obtain ⟨A, hA⟩ : ∃ A : Nat, a.getD k 0 = (A : Int) := ⟨(a.getD k 0).toNat, by omega⟩
  have hA9 : A < 1000000000 := by omega
  have hRB := h.rest
  have hlw := h.len
  have hlr := lim_length_mono (Nat.le_of_lt hRB)
  have hw2 : Wf ([a.getD k 0] ++ lim R) := Wf.cons xa.1 xa.2 (Wf_lim R)
  have h101 := L101_spec hw2 (by simp; omega)
  have hv2 : val ([a.getD k 0] ++ lim R) = a.getD k 0 + 1000000000 * (R : Int) := by
    show a.getD k 0 + 1000000000 * val (lim R) = _
    rw [val_lim]
  have hn : (val ([a.getD k 0] ++ lim R)).toNat = A + 1000000000 * R := by rw [hv2, hA]; omega
  rw [hn] at h101
  have hq9 : (A + 1000000000 * R) / B < 1000000000 := by rw [Nat.div_lt_iff_lt_mul hB]; omega
  have hlr2 : (lim (A + 1000000000 * R)).length < 1000000 := by
    have := lim_length_of (n := A + 1000000000 * R) (k := (lim B).length + 1) (by
      have := lim_lt B
      rw [Nat.pow_succ]
      omega)
    omega
  have h8 := S117_8_spec (i := (k : Int)) (w := w) hB (by omega) hlr2 hq9
  have h65 := L65_lim (n := B) (f := (A + 1000000000 * R) / B) (by omega) hq9
  have hle : B * ((A + 1000000000 * R) / B) ≤ A + 1000000000 * R := Nat.mul_div_le _ _
  have h116 := L116_spec hle (by omega)
  rw [← Nat.mod_eq_sub] at h116
  refine ⟨w.set k (((A + 1000000000 * R) / B : Nat) : Int), (A + 1000000000 * R) % B, ?_, ?_⟩
  · show S117_4 L65 L101 L116 Lg117_8 ((k : Int), a.getD k 0) (((), (), (), ()), ((lim B, ()), ((), ()), (lim R, ()), w, ())) = _
    rw [S117_4_eq, if_pos (by simp; omega), h101]
    simp only [Option.bind_some]
    rw [h8]
    simp only [Option.bind_some]
    rw [h65]
    simp only [Option.bind_some]
    rw [h116]
    simp only [Option.bind_some]
    exact (if_pos (show (0 : Int) ≤ (k : Int) by omega)).trans (if_pos (show (k : Int) < (w.length : Int) by omega))
  · refine ⟨by rw [List.length_set]; exact hlw, h.wf.set _ (Int.natCast_nonneg _) (Int.ofNat_lt.2 hq9), Nat.mod_lt _ hB, ?_⟩
    rw [drop_at (l := a) (i := k) (by omega), drop_set_at (by omega)]
    simp only [val]
    rw [hA]
    have h5 := divM_step (A := (A : Int)) (R := (R : Int)) (B := (B : Int)) (V := val (a.drop (k + 1))) (W := val (w.drop (k + 1))) h.vl
    rw [h5]
    simp only [Int.natCast_ediv, Int.natCast_emod, Int.natCast_add, Int.natCast_mul]
    rfl

theorem L117_spec {a B : Nat} (hB : 0 < B) (ha : (lim a).length < 100000) (hBl : (lim B).length < 100000) : L117 (lim a, lim B, ()) = some ((lim (a / B), lim (a % B), ()), ()) := by
  have h95 : L95 (lim a, ()) = some ((((), ()), ()), (lim a, ()), ()) := F95_eq _
  have hD : LD125 (((), ()), (lim a, ()), ()) = some (desc (lim a) (lim a).length) := LD125_spec (by omega)
  obtain ⟨y, h1, w, R, rfl, hO⟩ := fold_desc_ex (l := lim a) (f := S117_4 L65 L101 L116 Lg117_8) (fun k x => ∃ w R, x = Z117 B R w ∧ DivM (lim a) B k w R) (by
    rintro j hj x ⟨w, R, rfl, hO⟩
    obtain ⟨w', R', h1, h2⟩ := S117_4_step hB hBl (Wf_lim a) hj hO
    exact ⟨_, h1, w', R', rfl, h2⟩) (lim a).length (Nat.le_refl _) (Z117 B 0 (List.replicate (lim a).length 0)) ⟨_, 0, rfl, by simp, Wf.replicate _, hB, by rw [List.drop_of_length_le (Nat.le_refl _), List.drop_of_length_le (by simp)]; simp [val]⟩
  have h1 : Lg117_4 (desc (lim a) (lim a).length) (((), (), (), ()), (lim B, ()), ((), ()), (lim 0, ()), List.replicate (lim a).length 0, ()) = _ := h1
  rw [lim_zero] at h1
  have hv := hO.vl
  rw [List.drop_zero, List.drop_zero, val_lim] at hv
  have hw0 := val_nonneg hO.wf
  obtain ⟨W, hW⟩ : ∃ W : Nat, val w = (W : Int) := ⟨(val w).toNat, by omega⟩
  rw [hW] at hv
  obtain ⟨hd1, hd2⟩ := div_val hv hO.rest
  have hlw := hO.len
  show F117 L95 L101 LD125 Lg117_4 (lim a, lim B, ()) = _
  rw [F117_eq, if_pos (by omega), if_pos (by omega), h95]
  simp only [Option.bind_some]
  refine (congrArg (fun q => Option.bind q _) hD).trans ?_
  simp only [Option.bind_some, Int.toNat_natCast]
  rw [h1]
  simp only [Option.bind_some, Sum.elim_inl]
  rw [L101_spec hO.wf (by omega), hW, Int.toNat_natCast, hd1, hd2]
  rfl

theorem L79_spec {x y : Int} (hx : Sz 99999 x) (hy : Sz 99999 y) (h0 : y ≠ 0) : L79 (zl x, zl y, ()) = some (((zl (x.tdiv y), zl (x.tmod y)), ()), ()) := by
  unfold Sz at hx hy
  have h117 := L117_spec (a := x.natAbs) (B := y.natAbs) (by omega) (by omega) (by omega)
  show F79 L115 L117 ((decide (x < 0), lim x.natAbs), (decide (y < 0), lim y.natAbs), ()) = _
  rw [F79_eq, h117]
  simp only [Option.bind_some]
  have hq := lim_length_mono (Nat.div_le_self x.natAbs y.natAbs)
  have hr := lim_length_mono (Nat.mod_le x.natAbs y.natAbs)
  rw [L115_spec (Wf_lim _) (by omega), toNat_val_limM, sgn_tdiv]
  simp only [Option.bind_some]
  rw [L115_spec (Wf_lim _) (by omega), toNat_val_limM, sgn_tmod]
  rfl

theorem str_m1 : str (-1) = [45, 49] := by decide +kernel

theorem L80_spec {x y : Int} (hx : Sz 99999 x) (hy : Sz 99999 y) (h0 : y ≠ 0) : L80 (zl x, zl y, ()) = some (((zl (flq x y), zl (flr x y)), ()), ()) := by
  have h79 := L79_spec hx hy h0
  have h81 : L81 ([45, 49], ()) = some ((zl (-1), ()), ()) := by
    have := L81_str (z := -1) (by decide +kernel)
    rw [str_m1] at this
    exact this
  have hq : Sz 99999 (x.tdiv y) := hx.le (tdiv_abs x y)
  have hr : Sz 99999 (x.tmod y) := hy.le (Nat.le_of_lt (tmod_abs h0))
  have h74a := L74_spec (x := x.tdiv y) (y := -1) (hq.mono (by decide)) (by unfold Sz; decide +kernel)
  have h74b := L74_spec (x := x.tmod y) (y := y) (hr.mono (by decide)) (hy.mono (by decide))
  show F80 L74 L79 L81 ((decide (x < 0), lim x.natAbs), (decide (y < 0), lim y.natAbs), ()) = _
  rw [F80_eq]
  refine (congrArg (fun q => Option.bind q _) h79).trans ?_
  simp only [Option.bind_some]
  unfold flq flr
  have hz : decide (((lim (x.tmod y).natAbs).length : Int) > 0) = decide (x.tmod y ≠ 0) := by
    rw [decide_eq_decide]
    constructor
    · intro h e
      rw [e] at h
      rw [show lim (Int.natAbs 0) = [] from lim_zero] at h
      exact absurd h (by decide)
    · intro h
      have : lim (x.tmod y).natAbs ≠ [] := fun e => by have := lim_eq_nil.1 e; omega
      have := List.length_pos_iff.2 this
      omega
  refine Eq.trans (b := if decide (((lim (x.tmod y).natAbs).length : Int) > 0) = true then
      if (!(decide (x.tmod y < 0)) == decide (y < 0)) = true then
        (L81 ([45, 49], ())).bind fun y_1 =>
          (L74 (zl (x.tdiv y), (y_1.1.1.1, y_1.1.1.2), ())).bind fun y_2 =>
            (L74 (zl (x.tmod y), (zl y), ())).bind fun y =>
              some ((((y_2.1.1.1, y_2.1.1.2), y.1.1.1, y.1.1.2), ()), ())
      else some (((zl (x.tdiv y), zl (x.tmod y)), ()), ())
    else some (((zl (x.tdiv y), zl (x.tmod y)), ()), ())) rfl ?_
  rw [hz]
  by_cases h1 : x.tmod y = 0
  · rw [if_neg (by rw [decide_eq_true_eq]; exact fun q => q h1), if_neg (fun q => q.1 h1), if_neg (fun q => q.1 h1)]
  · rw [if_pos (decide_eq_true h1)]
    by_cases h2 : x.tmod y < 0 ↔ y < 0
    · rw [if_neg (c := (!(decide (x.tmod y < 0) == decide (y < 0))) = true) (by rw [show decide (x.tmod y < 0) = decide (y < 0) from decide_eq_decide.2 h2]; simp), if_neg (fun q => q.2 h2), if_neg (fun q => q.2 h2)]
    · rw [if_pos (c := (!(decide (x.tmod y < 0) == decide (y < 0))) = true) (by rw [Bool.not_eq_eq_eq_not, Bool.not_true, beq_eq_false_iff_ne]; exact fun q => h2 (decide_eq_decide.1 q)), if_pos ⟨h1, h2⟩, if_pos ⟨h1, h2⟩, h81]
      simp only [Option.bind_some]
      refine (congrArg (fun q => Option.bind q _) h74a).trans ?_
      simp only [Option.bind_some]
      refine (congrArg (fun q => Option.bind q _) h74b).trans ?_
      rfl
end Go.Proofs.Rf
/- The program's decimal strings. -/
namespace Go.Proofs.Rf
open Go Go.RowKit M
section
variable {α : Type}
theorem getD_setA {d : α} {r : List α} {i k : Nat} {v : α} : (r.set i v).getD k d = if i = k ∧ i < r.length then v else r.getD k d := by
  rw [List.getD_eq_getElem?_getD, List.getD_eq_getElem?_getD, List.getElem?_set]
  by_cases h : i = k
  · subst h
    by_cases h2 : i < r.length
    · rw [if_pos rfl, if_pos h2, if_pos ⟨rfl, h2⟩]
      rfl
    · rw [if_pos rfl, if_neg h2, if_neg (fun q => h2 q.2), List.getElem?_eq_none (by omega)]
  · rw [if_neg h, if_neg (fun q => h q.1)]

/-! ### Turning round -/
def swp (d : α) (l : List α) (i k : Nat) : List α := (l.set i (l.getD k d)).set k (l.getD i d)

/-- From i on, ahead of e. -/
def rv (d : α) : Nat → Nat → Nat → List α → List α
  | 0, _, _, l => l
  | m + 1, i, e, l => if i + 1 < e then rv d m (i + 1) (e - 1) (swp d l i (e - 1)) else l

theorem swp_length (d : α) (l : List α) (i k : Nat) : (swp d l i k).length = l.length := by simp [swp]

theorem swp_getD {d : α} {l : List α} {i k j : Nat} (hi : i < l.length) (hk : k < l.length) : (swp d l i k).getD j d = if j = k then l.getD i d else if j = i then l.getD k d else l.getD j d := by
  unfold swp
  rw [getD_setA, getD_setA]
  simp only [List.length_set, hi, hk, and_true]
  by_cases h1 : j = k
  · subst h1; simp
  · by_cases h2 : j = i
    · subst h2; simp [h1, Ne.symm h1]
    · simp [h1, h2, Ne.symm h1, Ne.symm h2]

theorem rv_getD (d : α) : ∀ (m i e : Nat) (l : List α), e ≤ l.length → e ≤ i + m → (rv d m i e l).length = l.length ∧ ∀ j, (rv d m i e l).getD j d = if i ≤ j ∧ j < e then l.getD (i + e - 1 - j) d else l.getD j d
  | 0, i, e, l, h1, h2 => by
    refine ⟨rfl, fun j => ?_⟩
    show l.getD j d = _
    rw [if_neg (by omega)]
  | m + 1, i, e, l, h1, h2 => by
    show (if i + 1 < e then rv d m (i + 1) (e - 1) (swp d l i (e - 1)) else l).length = _ ∧ ∀ j, (if i + 1 < e then rv d m (i + 1) (e - 1) (swp d l i (e - 1)) else l).getD j d = _
    by_cases h : i + 1 < e
    · rw [if_pos h]
      obtain ⟨q1, q2⟩ := rv_getD d m (i + 1) (e - 1) (swp d l i (e - 1)) (by rw [swp_length]; omega) (by omega)
      refine ⟨by rw [q1, swp_length], fun j => ?_⟩
      rw [q2]
      by_cases hj : i + 1 ≤ j ∧ j < e - 1
      · rw [if_pos hj, if_pos (by omega), swp_getD (by omega) (by omega), if_neg (by omega), if_neg (by omega), show i + 1 + (e - 1) - 1 - j = i + e - 1 - j by omega]
      · rw [if_neg hj, swp_getD (by omega) (by omega)]
        by_cases ha : j = e - 1
        · subst ha
          rw [if_pos rfl, if_pos (by omega), show i + e - 1 - (e - 1) = i by omega]
        · rw [if_neg ha]
          by_cases hb : j = i
          · subst hb
            rw [if_pos rfl, if_pos (by omega), show j + e - 1 - j = e - 1 by omega]
          · rw [if_neg hb, if_neg (by omega)]
    · rw [if_neg h]
      refine ⟨rfl, fun j => ?_⟩
      by_cases hj : i ≤ j ∧ j < e
      · rw [if_pos hj, show i + e - 1 - j = j by omega]
      · rw [if_neg hj]

theorem getD_ext (d : α) {a b : List α} (h : a.length = b.length) (k : ∀ j, j < a.length → a.getD j d = b.getD j d) : a = b := by
  refine List.ext_getElem h fun i h1 h2 => ?_
  have := k i h1
  rw [List.getD_eq_getElem?_getD, List.getD_eq_getElem?_getD, List.getElem?_eq_getElem h1, List.getElem?_eq_getElem h2] at this
  exact this

theorem rv_reverse (d : α) (l : List α) : rv d l.length 0 l.length l = l.reverse := by
  obtain ⟨h1, h2⟩ := rv_getD d l.length 0 l.length l (Nat.le_refl _) (by omega)
  refine getD_ext d (by rw [h1, List.length_reverse]) fun j hj => ?_
  rw [h1] at hj
  rw [h2, if_pos (by omega), List.getD_eq_getElem?_getD, List.getD_eq_getElem?_getD, List.getElem?_reverse hj]
  congr 3
  omega

/-- Both texts' loops that turn a row round. -/
theorem turn_loop {A B : Type} (d : α) {f : A → Option (A ⊕ B)} {st : Int → Int → List α → A} {fin : List α → B} (hf : ∀ i k r, f (st i k r) = (
    if decide (i < k) = true then
      if 0 ≤ k then
        if k < (r.length : Int) then
          if 0 ≤ i then
            if i < (r.length : Int) then
              if 0 ≤ i then
                if i < (r.length : Int) then
                  if 0 ≤ k then
                    if k < ((r.set i.toNat (r.getD k.toNat d)).length : Int) then
                      some (.inl (st (IntKind.i64.wrap (i + 1)) (IntKind.i64.wrap (k - 1)) ((r.set i.toNat (r.getD k.toNat d)).set k.toNat (r.getD i.toNat d))))
                    else none
                  else none
                else none
              else none
            else none
          else none
        else none
      else none
    else some (.inr (fin r)))) (μ : A → Nat) (hμ : ∀ i k r, μ (st i k r) = (k - i + 1).toNat) (l : List α) (hl : l.length < 1000000000) : limL f (st 0 ((l.length : Int) - 1) l) = some (fin l.reverse) := by
  obtain ⟨z, h1, rfl⟩ := limL_ind (f := f) μ (fun x => ∃ (m i e : Nat) (r : List α), x = st (i : Int) ((e : Int) - 1) r ∧ rv d m i e r = l.reverse ∧ r.length = l.length ∧ e ≤ l.length ∧ e ≤ i + m ∧ i ≤ l.length)
    (fun z => z = fin l.reverse) (by
    rintro x ⟨m, i, e, r, rfl, hrv, hr, he, hm, hi⟩
    have q := hf (i : Int) ((e : Int) - 1) r
    by_cases h : i + 1 < e
    · left
      obtain ⟨m', rfl⟩ : ∃ m', m = m' + 1 := ⟨m - 1, by omega⟩
      have hrv : (if i + 1 < e then rv d m' (i + 1) (e - 1) (swp d r i (e - 1)) else r) = l.reverse := hrv
      rw [if_pos h] at hrv
      have e1 : IntKind.i64.wrap ((i : Int) + 1) = ((i + 1 : Nat) : Int) := by rw [wi (by omega) (by omega)]; omega
      have e2 : IntKind.i64.wrap ((e : Int) - 1 - 1) = ((e - 1 : Nat) : Int) - 1 := by rw [wi (by omega) (by omega)]; omega
      have e3 : ((e : Int) - 1).toNat = e - 1 := by omega
      have p1 : (i : Int) < (e : Int) - 1 := by omega
      have p2 : (0 : Int) ≤ (e : Int) - 1 := by omega
      have p3 : (e : Int) - 1 < (r.length : Int) := by omega
      have p4 : (0 : Int) ≤ (i : Int) := by omega
      have p5 : (i : Int) < (r.length : Int) := by omega
      simp only [decide_eq_true_eq, p1, p2, p3, p4, p5, if_true, e1, e2, e3, Int.toNat_natCast, List.length_set] at q
      refine ⟨_, q, ⟨m', i + 1, e - 1, _, rfl, hrv, by rw [List.length_set, List.length_set]; exact hr, by omega, by omega, by omega⟩, ?_⟩
      rw [hμ, hμ]
      omega
    · right
      have p1 : ¬ (i : Int) < (e : Int) - 1 := by omega
      simp only [decide_eq_true_eq, p1, if_false] at q
      refine ⟨_, q, ?_⟩
      rw [← hrv]
      cases m with
      | zero => rfl
      | succ m =>
        show _ = fin (if i + 1 < e then rv d m (i + 1) (e - 1) (swp d r i (e - 1)) else r)
        rw [if_neg h]) (st 0 ((l.length : Int) - 1) l) ⟨l.length, 0, l.length, l, rfl, rv_reverse d l, rfl, Nat.le_refl _, by omega, by omega⟩
  exact h1

end

theorem L106_spec {r : List (List UInt8)} (hr : r.length < 1000000000) : L106 (((), ()), (r, ())) = some (((), ()), r.reverse, ()) := by
  show F106 Lg106_1 (((), ()), (r, ())) = _
  rw [F106_eq, wi (by omega) (by omega)]
  have := turn_loop (d := ([] : List UInt8)) (f := S106_1) (st := fun i k r => (((), i, k, ()), (r, ()))) (fin := fun r => (((), ()), r, ())) (fun i k r => S106_1_eq i k r) (fun x => (x.1.2.2.1 - x.1.2.1 + 1).toNat) (fun _ _ _ => rfl) r hr
  rw [show Lg106_1 (((), 0, (r.length : Int) - 1, ()), r, ()) = _ from this]
  rfl

/-- A limb's digits, nine of them. -/
def p9 (d : Int) : List UInt8 := List.replicate (9 - (dec d.toNat).length) 48 ++ dec d.toNat

theorem IsD_zeros (n : Nat) : IsD (List.replicate n 48) := fun c hc => by
  rw [(List.mem_replicate.1 hc).2]
  decide

theorem dv_zeros (n : Nat) : dv (List.replicate n 48) = 0 := by
  induction n with
  | zero => rfl
  | succ n ih => rw [List.replicate_succ', dv_snoc, ih]; rfl

theorem dec_le9 {d : Int} (h0 : 0 ≤ d) (h1 : d < 1000000000) : (dec d.toNat).length ≤ 9 := dec_length_le (k := 9) (by omega) (by decide)

theorem p9_all {d : Int} (h0 : 0 ≤ d) (h1 : d < 1000000000) : IsD (p9 d) ∧ (p9 d).length = 9 ∧ (dv (p9 d) : Int) = d := by
  have hl := dec_le9 h0 h1
  refine ⟨(IsD_zeros _).append (dec_IsD _), by unfold p9; simp; omega, ?_⟩
  unfold p9
  rw [dv_append, dv_zeros, dv_dec]
  omega

theorem L103_spec {d : Int} (h0 : 0 ≤ d) (h1 : d < 1000000000) : L103 (d, ()) = some ((p9 d, ()), ()) := by
  have hl := dec_le9 h0 h1
  show F103 F104 F105 (d, ()) = _
  have e : Lib.itoa d = dec d.toNat := by
    obtain ⟨n, rfl⟩ : ∃ n : Nat, d = (n : Int) := ⟨d.toNat, by omega⟩
    exact Lib.itoa_nonneg n
  have h104 : F104 (d, ()) = some ((dec d.toNat, ()), ()) := by
    unfold F104
    rw [if_pos (by unfold i64Ok; rw [decide_eq_true (by omega), decide_eq_true (by omega)]; rfl), e]
  have h105 : F105 ([48], ((9 - (dec d.toNat).length : Nat) : Int), ()) = some ((List.replicate (9 - (dec d.toNat).length) 48, ()), ()) := by
    unfold F105
    rw [if_pos (by
      unfold repOk
      simp only [List.length_cons, List.length_nil, Int.toNat_natCast, Bool.and_eq_true, decide_eq_true_eq, Nat.ble_eq]
      refine ⟨by omega, by omega, by omega⟩)]
    have := Lib.repeatL_replicate 48 1 (9 - (dec d.toNat).length)
    simp only [Int.toNat_natCast]
    rw [show Lib.repeatL [48] (9 - (dec d.toNat).length) = List.replicate (9 - (dec d.toNat).length) 48 by simpa using this]
  rw [F103_eq, wi (n := d) (by omega) (by omega), h104]
  simp only [Option.bind_some]
  rw [wi (n := 9 - ((dec d.toNat).length : Int)) (by omega) (by omega), show 9 - ((dec d.toNat).length : Int) = ((9 - (dec d.toNat).length : Nat) : Int) by omega, h105]
  simp only [Option.bind_some]
  exact if_pos (by simp; omega)

theorem S102_step {l : List Int} (hw : Wf l) (hl : l.length < 1000000000) {w : List (List UInt8)} {i : Nat} (hwl : w.length = l.length) (hi : i < l.length) :
    S102_3 L103 ((l, 104, (), (l.length : Int), (i : Int), ()), (w, ())) = some (.inl ((l, 104, (), (l.length : Int), ((i + 1 : Nat) : Int), ()), (w.set i (p9 (l.getD i 0)), ()))) := by
  have xa := hw.getD i
  rw [S102_3_eq, if_pos (decide_eq_true (by omega)), if_pos (by omega), if_pos (by omega)]
  rw [if_neg (by decide), if_neg (by decide), if_neg (by decide), if_neg (by decide), if_neg (by decide), if_neg (by decide), if_neg (by decide), if_neg (by decide), if_neg (by decide), if_neg (by decide), if_neg (by decide), if_neg (by decide), if_neg (by decide), if_pos (by decide), Int.toNat_natCast, L103_spec xa.1 xa.2]
  simp only [Option.bind_some]
  rw [if_pos (by omega), if_pos (by omega), wi (n := (i : Int) + 1) (by omega) (by omega)]
  rfl

theorem take_set_succ {α : Type} {w : List α} {i : Nat} {v : α} (h : i < w.length) : (w.set i v).take (i + 1) = w.take i ++ [v] := by
  refine List.ext_getElem? fun j => ?_
  rw [List.getElem?_take, List.getElem?_append, List.length_take, Nat.min_eq_left (by omega), List.getElem?_set, List.getElem?_take]
  by_cases h1 : j < i
  · rw [if_pos (by omega), if_neg (by omega), if_pos h1, if_pos h1]
  · rw [if_neg h1]
    by_cases h2 : j = i
    · subst h2
      rw [if_pos (by omega), if_pos rfl, if_pos h, Nat.sub_self]
      rfl
    · rw [if_neg (by omega), List.getElem?_eq_none (by simp; omega)]

theorem L102_spec {l : List Int} (hw : Wf l) (hl : l.length < 1000000000) : L102 (l, 104, ()) = some (((), ()), l.map p9, ()) := by
  obtain ⟨z, h1, rfl⟩ := limL_ind (f := S102_3 L103) (fun x => l.length - x.1.2.2.2.2.1.toNat)
    (fun x => ∃ (i : Nat) (w : List (List UInt8)), x = ((l, 104, (), (l.length : Int), (i : Int), ()), (w, ())) ∧ i ≤ l.length ∧ w.length = l.length ∧ w.take i = (l.take i).map p9)
    (fun z => z = (((), ()), (l.map p9, ()))) (by
    rintro x ⟨i, w, rfl, hi, hwl, ht⟩
    by_cases hd : i < l.length
    · left
      refine ⟨_, S102_step hw hl hwl hd, ⟨i + 1, _, rfl, by omega, by rw [List.length_set]; exact hwl, ?_⟩, by simp only [Int.toNat_natCast]; omega⟩
      rw [take_set_succ (by omega), ht, ← List.take_append_getElem hd, List.map_append, List.getD_eq_getElem?_getD, List.getElem?_eq_getElem hd]
      rfl
    · right
      obtain rfl : i = l.length := by omega
      rw [List.take_of_length_le (by omega), List.take_of_length_le (by omega)] at ht
      exact ⟨_, by rw [S102_3_eq, if_neg (by simp)], by rw [ht]⟩) ((l, 104, (), (l.length : Int), ((0 : Nat) : Int), ()), (List.replicate l.length [], ())) ⟨0, _, rfl, by omega, by simp, rfl⟩
  have h1 : Lg102_3 ((l, 104, (), (l.length : Int), 0, ()), List.replicate l.length [], ()) = _ := h1
  show F102 Lg102_3 (l, 104, ()) = _
  rw [F102_eq, if_pos (by omega), if_pos (by omega), Int.toNat_natCast, h1]
  rfl

/-- The leading zeros are dropped. -/
def tl0 : List UInt8 → List UInt8
  | [] => []
  | c :: r => if c = 48 then tl0 r else c :: r

theorem tl0_spec : ∀ (s : List UInt8), IsD s → IsD (tl0 s) ∧ dv (tl0 s) = dv s ∧ (tl0 s = [] ∨ (tl0 s).head? ≠ some 48) ∧ (tl0 s).length ≤ s.length
  | [], h => ⟨h, rfl, .inl rfl, by simp [tl0]⟩
  | c :: r, h => by
    have hr : IsD r := fun x hx => h x (List.mem_cons_of_mem _ hx)
    obtain ⟨h1, h2, h3, h4⟩ := tl0_spec r hr
    unfold tl0
    by_cases e : c = 48
    · rw [if_pos e]
      refine ⟨h1, ?_, h3, by simp; omega⟩
      have := dv_append [c] r
      rw [show [c] ++ r = c :: r from rfl, e] at this
      rw [h2, e, this]
      show _ = dv [48] * _ + _
      rw [show dv [48] = 0 from rfl]
      omega
    · rw [if_neg e]
      refine ⟨h, rfl, .inr ?_, Nat.le_refl _⟩
      intro q
      injection q with q
      exact e q

theorem S136_spec : ∀ (s : List UInt8), s.length < 1000000000 → limL S136_1 ((s, 48, ()), ()) = some ((tl0 s, ()), ())
  | s, hl => by
    obtain ⟨z, h1, rfl⟩ := limL_ind (f := S136_1) (fun x => x.1.1.length)
      (fun x => ∃ t, x = ((t, 48, ()), ()) ∧ tl0 t = tl0 s)
      (fun z => z = ((tl0 s, ()), ())) (by
      rintro x ⟨t, rfl, ht⟩
      rw [S136_1_eq]
      cases t with
      | nil =>
        right
        exact ⟨_, if_neg (by simp), by rw [← ht]; rfl⟩
      | cons c r =>
        have hb : (((c.toNat : Nat) : Int) == 48) = decide (c = 48) := by
          rw [Bool.eq_iff_iff, beq_iff_eq, decide_eq_true_eq]
          constructor
          · intro h
            exact UInt8.toNat_inj.1 (show c.toNat = (48 : UInt8).toNat by show c.toNat = 48; omega)
          · intro h
            rw [h]
            rfl
        by_cases e : c = 48
        · left
          refine ⟨((r, 48, ()), ()), ?_, ⟨r, rfl, ?_⟩, by simp⟩
          · rw [if_pos (by simp), if_pos (by simp)]
            refine (if_pos (hb.trans (decide_eq_true e))).trans ?_
            rw [if_pos (by simp; omega), if_pos (by omega)]
            rfl
          · rw [← ht, tl0, if_pos e]
        · right
          refine ⟨((c :: r, ()), ()), ?_, ?_⟩
          · rw [if_pos (by simp), if_pos (by simp)]
            exact if_neg (by rw [show ((((c :: r).getD 0 (0 : UInt8)).toNat : Nat) : Int) = ((c.toNat : Nat) : Int) from rfl, hb, decide_eq_true_eq]; exact e)
          · rw [← ht, tl0, if_neg e]) ((s, 48, ()), ()) ⟨s, rfl, rfl⟩
    exact h1

theorem L107_spec {s : List UInt8} (hl : s.length < 1000000000) : L107 (s, [48], ()) = some ((tl0 s, ()), ()) := by
  show F107 L136 (s, [48], ()) = _
  rw [F107_eq]
  have h136 : L136 (s, 48, ()) = some ((tl0 s, ()), ()) := by
    show F136 Lg136_1 (s, 48, ()) = _
    rw [F136_eq]
    have : Lg136_1 ((s, 48, ()), ()) = _ := S136_spec s hl
    rw [this]
    rfl
  cases s with
  | nil => rfl
  | cons c r =>
    rw [if_neg (by simp), if_neg (by decide), if_pos (by decide), if_pos (by decide)]
    refine (if_pos (by decide)).trans ((if_pos (by decide)).trans ?_)
    refine (congrArg (fun q => Option.bind q _) h136).trans ?_
    rfl

theorem join_flat (xs : List (List UInt8)) : Lib.join xs [] = xs.flatten := by
  unfold Lib.join
  cases xs with
  | nil => rfl
  | cons x r =>
    have := Lib.join_cons x r []
    unfold Lib.join at this
    rw [this]
    unfold Lib.joinTail
    simp

theorem flat_all : ∀ (l : List Int), Wf l → IsD (l.map p9).reverse.flatten ∧ ((dv (l.map p9).reverse.flatten : Nat) : Int) = val l ∧ (l.map p9).reverse.flatten.length = 9 * l.length
  | [], _ => ⟨IsD.nil, rfl, rfl⟩
  | d :: r, h => by
    obtain ⟨h1, h2, h3⟩ := flat_all r h.tail
    obtain ⟨p1, p2, p3⟩ := p9_all h.head.1 h.head.2
    have e : (List.map p9 (d :: r)).reverse.flatten = (r.map p9).reverse.flatten ++ p9 d := by simp
    rw [e]
    refine ⟨h1.append p1, ?_, by rw [List.length_append, h3, p2]; simp; omega⟩
    rw [dv_append, p2, Int.natCast_add, Int.natCast_mul, h2, p3]
    show _ = d + 1000000000 * val r
    have : ((10 ^ 9 : Nat) : Int) = 1000000000 := by decide
    rw [this]
    omega

/-- The string of a number, or that it is too large. -/
def rsZ (z : Int) : List UInt8 × Int × Unit := if 100 < (dec z.natAbs).length then ([], 4, ()) else (str z, 0, ())

theorem L66_spec {z : Int} (hz : Sz 10000 z) : L66 (zl z, ()) = some ((rsZ z), ()) := by
  unfold Sz at hz
  show F66 L102 L106 L107 F108 ((decide (z < 0), lim z.natAbs), ()) = _
  rw [F66_eq]
  by_cases h0 : z = 0
  · subst h0
    rw [show lim (Int.natAbs 0) = [] from lim_zero]
    refine (if_pos (by decide)).trans ?_
    unfold rsZ
    rw [show Int.natAbs 0 = 0 from rfl, dec_small (by decide), if_neg (by decide)]
    rw [show str 0 = [48] from (str_nat 0).trans (dec_small (by decide))]
  · have hw := Wf_lim z.natAbs
    obtain ⟨q1, q2, q3⟩ := flat_all _ hw
    rw [val_lim] at q2
    have hne : lim z.natAbs ≠ [] := fun e => by have := lim_eq_nil.1 e; omega
    have hlp := List.length_pos_iff.2 hne
    rw [if_neg (by rw [beq_iff_eq]; omega), L102_spec hw (by omega)]
    simp only [Option.bind_some]
    rw [L106_spec (by simp; omega)]
    simp only [Option.bind_some]
    have h108 : F108 ((List.map p9 (lim z.natAbs)).reverse, [], ()) = some (((List.map p9 (lim z.natAbs)).reverse.flatten, ()), ()) := by
      unfold F108
      rw [if_pos (by
        unfold joinOk
        simp only [join_flat, q3, Bool.and_eq_true, Nat.ble_eq, List.length_reverse, List.length_map]
        omega)]
      simp only [join_flat]
    rw [h108]
    simp only [Option.bind_some]
    rw [L107_spec (by rw [q3]; omega)]
    simp only [Option.bind_some]
    obtain ⟨t1, t2, t3, t4⟩ := tl0_spec _ q1
    have hT : tl0 (List.map p9 (lim z.natAbs)).reverse.flatten = dec z.natAbs := by
      rw [← dec_dv (s := tl0 (List.map p9 (lim z.natAbs)).reverse.flatten) t1, t2]
      · congr 1
        omega
      · have hn : tl0 (List.map p9 (lim z.natAbs)).reverse.flatten ≠ [] := by
          intro e
          rw [e] at t2
          have : dv [] = 0 := rfl
          omega
        exact ⟨hn, t3.elim (fun e => absurd e hn) .inr⟩
    rw [hT]
    rw [hT, q3] at t4
    unfold rsZ
    by_cases h1 : 100 < (dec z.natAbs).length
    · rw [if_pos (decide_eq_true (by omega)), if_pos h1]
    · rw [if_neg (by rw [decide_eq_true_eq]; omega), if_neg h1]
      unfold str
      by_cases hn : z < 0
      · rw [if_pos (decide_eq_true hn), if_pos hn, if_pos (by omega)]
        rfl
      · rw [if_neg (by rw [decide_eq_true_eq]; exact hn), if_neg hn]
end Go.Proofs.Rf
/- Sums, differences, products, quotients and comparisons of both texts. -/
namespace Go.Proofs.Rf
open Go Go.RowKit

def e2 (a b : List UInt8) : Int := if ciErr a = 0 then ciErr b else ciErr a
def e3 (a b : List UInt8) : Int := if e2 a b = 0 then (if b = [48] then 34 else 0) else e2 a b

theorem e2_0 {a b : List UInt8} (h : e2 a b = 0) : ciErr a = 0 ∧ ciErr b = 0 := by
  unfold e2 at h
  by_cases h1 : ciErr a = 0
  · rw [if_pos h1] at h
    exact ⟨h1, h⟩
  · rw [if_neg h1] at h
    exact absurd h h1

theorem e3_0 {a b : List UInt8} (h : e3 a b = 0) : e2 a b = 0 ∧ b ≠ [48] := by
  unfold e3 at h
  by_cases h1 : e2 a b = 0
  · rw [if_pos h1] at h
    by_cases h2 : b = [48]
    · rw [if_pos h2] at h
      exact absurd h (by decide)
    · exact ⟨h1, h2⟩
  · rw [if_neg h1] at h
    exact absurd h h1

theorem fst3 (a b c : Int) : fstE [a, b, c] = if (if a = 0 then b else a) = 0 then c else (if a = 0 then b else a) := by
  have h : fstE [a, b, c] = if a = 0 then fstE [b, c] else a := rfl
  rw [h, fst2]
  by_cases h1 : a = 0
  · rw [if_pos h1, if_pos h1]
  · rw [if_neg h1, if_neg h1, if_neg h1]

/-! ### The program's -/
def opZ (f : Int → Int → Int) (a b : List UInt8) : List UInt8 × Int × Unit := if e2 a b = 0 then rsZ (f (sv a) (sv b)) else ([], e2 a b, ())

theorem sz_ci {s : List UInt8} (h : ciErr s = 0) : D.Sz 101 (sv s) := szD (ci_str h).2

theorem L81_ci {s : List UInt8} (h : ciErr s = 0) : L81 (s, ()) = some ((M.zl (sv s), ()), ()) := by
  obtain ⟨h1, h2⟩ := ci_str h
  have := L81_str (z := sv s) (by omega)
  rw [← h1] at this
  exact this

theorem L73_at {f : Int → Int → Int} {k : Int} (a b : List UInt8)
    (h : ciErr a = 0 → ciErr b = 0 → F73 L41 L55 L66 L74 L75 L77 L81 (a, b, k, ()) = some ((rsZ (f (sv a) (sv b))), ())) :
    F73 L41 L55 L66 L74 L75 L77 L81 (a, b, k, ()) = some ((opZ f a b), ()) := by
  unfold opZ
  by_cases he : e2 a b = 0
  · obtain ⟨ha, hb⟩ := e2_0 he
    rw [if_pos he, h ha hb]
  · rw [if_neg he, F73_eq, L41_spec, L41_spec]
    simp only [Option.bind_some]
    rw [L55_two]
    simp only [Option.bind_some]
    exact if_pos (ne_zero_b he)

theorem szM' {z : Int} {k j : Nat} (h : D.Sz k z) (hk : k ≤ j) : M.Sz j z := (szM h).mono hk

theorem add_szM {x y : Int} (hx : D.Sz 101 x) (hy : D.Sz 101 y) : M.Sz 10000 (x + y) := szM' (hx.add hy) (by decide)
theorem mul_szM {x y : Int} (hx : D.Sz 101 x) (hy : D.Sz 101 y) : M.Sz 10000 (x * y) := szM' (hx.mul hy) (by decide)

theorem L29_spec (a b : List UInt8) : L29 (a, b, ()) = some ((opZ (· + ·) a b), ()) := by
  have h73 : L73 (a, b, 75, ()) = some ((opZ (· + ·) a b), ()) := by
    refine L73_at a b fun ha hb => ?_
    rw [F73_eq, L41_spec, L41_spec]
    simp only [Option.bind_some]
    rw [L55_two, ha, hb]
    simp only [Option.bind_some]
    rw [if_neg (by decide), L81_ci ha, L81_ci hb]
    simp only [Option.bind_some]
    rw [if_neg (by decide), if_neg (by decide), if_neg (by decide), if_neg (by decide), if_neg (by decide), if_neg (by decide), if_neg (by decide), if_neg (by decide), if_pos (by decide)]
    refine (congrArg (fun q => Option.bind q _) (L74_spec (szM' (sz_ci ha) (by decide)) (szM' (sz_ci hb) (by decide)))).trans ?_
    simp only [Option.bind_some]
    exact (congrArg (fun q => Option.bind q _) (L66_spec (add_szM (sz_ci ha) (sz_ci hb)))).trans rfl
  show F29 L73 (a, b, ()) = _
  rw [F29_eq]
  exact (congrArg (fun q => Option.bind q _) h73).trans rfl

theorem L30_spec (a b : List UInt8) : L30 (a, b, ()) = some ((opZ (· - ·) a b), ()) := by
  have h73 : L73 (a, b, 76, ()) = some ((opZ (· - ·) a b), ()) := by
    refine L73_at a b fun ha hb => ?_
    rw [F73_eq, L41_spec, L41_spec]
    simp only [Option.bind_some]
    rw [L55_two, ha, hb]
    simp only [Option.bind_some]
    rw [if_neg (by decide), L81_ci ha, L81_ci hb]
    simp only [Option.bind_some]
    rw [if_neg (by decide), if_neg (by decide), if_neg (by decide), if_neg (by decide), if_neg (by decide), if_neg (by decide), if_neg (by decide), if_neg (by decide), if_neg (by decide), if_pos (by decide)]
    refine (congrArg (fun q => Option.bind q _) (L75_spec (szM' (sz_ci ha) (by decide)) (szM' (sz_ci hb) (by decide)))).trans ?_
    simp only [Option.bind_some]
    have hs : M.Sz 10000 (sv a - sv b) := by
      rw [Int.sub_eq_add_neg]
      exact add_szM (sz_ci ha) (sz_ci hb).neg
    exact (congrArg (fun q => Option.bind q _) (L66_spec hs)).trans rfl
  show F30 L73 (a, b, ()) = _
  rw [F30_eq]
  exact (congrArg (fun q => Option.bind q _) h73).trans rfl

theorem L31_spec (a b : List UInt8) : L31 (a, b, ()) = some ((opZ (· * ·) a b), ()) := by
  have h73 : L73 (a, b, 78, ()) = some ((opZ (· * ·) a b), ()) := by
    refine L73_at a b fun ha hb => ?_
    rw [F73_eq, L41_spec, L41_spec]
    simp only [Option.bind_some]
    rw [L55_two, ha, hb]
    simp only [Option.bind_some]
    rw [if_neg (by decide), L81_ci ha, L81_ci hb]
    simp only [Option.bind_some]
    rw [if_neg (by decide), if_neg (by decide), if_neg (by decide), if_neg (by decide), if_neg (by decide), if_neg (by decide), if_neg (by decide), if_neg (by decide), if_neg (by decide), if_neg (by decide), if_pos (by decide)]
    refine (congrArg (fun q => Option.bind q _) (L77_spec (szM' (sz_ci ha) (by decide)) (szM' (sz_ci hb) (by decide)))).trans ?_
    simp only [Option.bind_some]
    exact (congrArg (fun q => Option.bind q _) (L66_spec (mul_szM (sz_ci ha) (sz_ci hb)))).trans rfl
  show F31 L73 (a, b, ()) = _
  rw [F31_eq]
  exact (congrArg (fun q => Option.bind q _) h73).trans rfl

/-- The strings of a quotient and a remainder. -/
def dvZ (q r : Int) : List UInt8 × List UInt8 × Int × Unit := if 100 < (dec q.natAbs).length then ([], [], 4, ()) else (str q, str r, 0, ())
def qrZ (f g : Int → Int → Int) (a b : List UInt8) : List UInt8 × List UInt8 × Int × Unit := if e3 a b = 0 then dvZ (f (sv a) (sv b)) (g (sv a) (sv b)) else ([], [], e3 a b, ())

theorem sv_ne {b : List UInt8} (hb : ciErr b = 0) (h : b ≠ [48]) : sv b ≠ 0 := by
  intro e
  have := (ci_str hb).1
  rw [e, show str 0 = [48] from (str_nat 0).trans (dec_small (by decide))] at this
  exact h this

theorem dec_len_mono {a b : Nat} (h : a ≤ b) (hb : (dec b).length ≤ 100) : (dec a).length ≤ 100 := by
  refine dec_length_le (Nat.lt_of_le_of_lt h ?_) (by decide)
  have := dv_lt (dec_IsD b)
  rw [dv_dec] at this
  exact Nat.lt_of_lt_of_le this (Nat.pow_le_pow_right (by decide) hb)

theorem rsZ_small {r : Int} (h : (dec r.natAbs).length ≤ 100) : rsZ r = (str r, 0, ()) := if_neg (by omega)

theorem flr_abs {x y : Int} (h : y ≠ 0) : (flr x y).natAbs < y.natAbs := by
  have h1 := tmod_abs (x := x) h
  unfold flr
  by_cases c : x.tmod y ≠ 0 ∧ ¬ (x.tmod y < 0 ↔ y < 0)
  · rw [if_pos c]
    obtain ⟨c1, c2⟩ := c
    omega
  · rw [if_neg c]
    exact h1

theorem flq_sz {x y : Int} {k : Nat} (hx : D.Sz k x) (hk : 1 ≤ k) : D.Sz (k + 1) (flq x y) := by
  unfold flq
  have h1 : D.Sz k (x.tdiv y) := hx.le (tdiv_abs x y)
  have h2 : D.Sz (max k 1 + 1) (x.tdiv y + -1) := h1.add (D.lim_length_of (k := 1) (by decide))
  rw [Nat.max_eq_left hk] at h2
  split
  · rw [Int.sub_eq_add_neg]
    exact h2
  · exact h1.mono (by omega)

theorem F78_at {f g : Int → Int → Int} {k : Int} (a b : List UInt8)
    (h : ciErr a = 0 → ciErr b = 0 → b ≠ [48] → F78 L41 L55 L56 L66 L79 L80 L81 (a, b, k, ()) = some ((dvZ (f (sv a) (sv b)) (g (sv a) (sv b))), ())) :
    F78 L41 L55 L56 L66 L79 L80 L81 (a, b, k, ()) = some ((qrZ f g a b), ()) := by
  unfold qrZ
  by_cases he : e3 a b = 0
  · obtain ⟨h2, h3⟩ := e3_0 he
    obtain ⟨ha, hb⟩ := e2_0 h2
    rw [if_pos he, h ha hb h3]
  · have h56 : L56 (b == [48], 34, ()) = some ((if b = [48] then 34 else 0, ()), ()) := by
      show F56 (b == [48], 34, ()) = _
      rw [F56_eq]
      by_cases e : b = [48]
      · rw [if_pos (by rw [beq_iff_eq]; exact e), if_pos e]
      · rw [if_neg (by rw [beq_iff_eq]; exact e), if_neg e]
    rw [if_neg he, F78_eq, L41_spec, L41_spec]
    simp only [Option.bind_some]
    rw [h56]
    simp only [Option.bind_some]
    rw [L55_spec (by simp), fst3]
    simp only [Option.bind_some]
    exact if_pos (ne_zero_b he)

theorem L56_48 {b : List UInt8} (h0 : b ≠ [48]) : L56 (b == [48], 34, ()) = some ((0, ()), ()) := by
  show F56 (b == [48], 34, ()) = _
  rw [F56_eq, if_neg (by rw [beq_iff_eq]; exact h0)]

theorem div_tail {q r : Int} (hq : M.Sz 10000 q) (hr : M.Sz 10000 r) (hl : (dec r.natAbs).length ≤ 100) :
    ((L66 (M.zl q, ())).bind fun y_4 =>
      if (!y_4.1.2.1 == 0) = true then (some (([], [], y_4.1.2.1, ()), ()) : Option rs78.den)
      else (L66 (M.zl r, ())).bind fun y => some ((y_4.1.1, y.1.1, 0, ()), ())) = some ((dvZ q r), ()) := by
  rw [L66_spec hq]
  simp only [Option.bind_some]
  unfold dvZ
  by_cases h : 100 < (dec q.natAbs).length
  · rw [if_pos h]
    have : rsZ q = ([], 4, ()) := if_pos h
    rw [this]
    exact if_pos (by decide)
  · rw [if_neg h]
    have : rsZ q = (str q, 0, ()) := if_neg h
    rw [this, L66_spec hr, rsZ_small hl]
    exact if_neg Bool.false_ne_true

theorem L32_spec (a b : List UInt8) : L32 (a, b, ()) = some ((qrZ Int.tdiv Int.tmod a b), ()) := by
  have h78 : L78 (a, b, 80, ()) = some ((qrZ Int.tdiv Int.tmod a b), ()) := by
    refine F78_at a b fun ha hb h0 => ?_
    have hz := sv_ne hb h0
    rw [F78_eq, L41_spec, L41_spec]
    simp only [Option.bind_some]
    rw [L56_48 h0]
    simp only [Option.bind_some]
    rw [L55_spec (by simp), fst3, ha, hb]
    simp only [Option.bind_some]
    rw [if_neg (by decide), L81_ci ha, L81_ci hb]
    simp only [Option.bind_some]
    rw [if_neg (by decide), if_neg (by decide), if_neg (by decide), if_neg (by decide), if_neg (by decide), if_neg (by decide), if_neg (by decide), if_neg (by decide), if_neg (by decide), if_neg (by decide), if_neg (by decide), if_pos (by decide)]
    refine (congrArg (fun q => Option.bind q _) (L79_spec (szM' (sz_ci ha) (by decide)) (szM' (sz_ci hb) (by decide)) hz)).trans ?_
    simp only [Option.bind_some]
    exact div_tail (szM' ((sz_ci ha).le (tdiv_abs _ _)) (by decide)) (szM' ((sz_ci hb).le (Nat.le_of_lt (tmod_abs hz))) (by decide)) (dec_len_mono (Nat.le_of_lt (tmod_abs hz)) (ci_str hb).2)
  show F32 L78 (a, b, ()) = _
  rw [F32_eq]
  exact (congrArg (fun q => Option.bind q _) h78).trans rfl

theorem L33_spec (a b : List UInt8) : L33 (a, b, ()) = some ((qrZ flq flr a b), ()) := by
  have h78 : L78 (a, b, 81, ()) = some ((qrZ flq flr a b), ()) := by
    refine F78_at a b fun ha hb h0 => ?_
    have hz := sv_ne hb h0
    rw [F78_eq, L41_spec, L41_spec]
    simp only [Option.bind_some]
    rw [L56_48 h0]
    simp only [Option.bind_some]
    rw [L55_spec (by simp), fst3, ha, hb]
    simp only [Option.bind_some]
    rw [if_neg (by decide), L81_ci ha, L81_ci hb]
    simp only [Option.bind_some]
    rw [if_neg (by decide), if_neg (by decide), if_neg (by decide), if_neg (by decide), if_neg (by decide), if_neg (by decide), if_neg (by decide), if_neg (by decide), if_neg (by decide), if_neg (by decide), if_neg (by decide), if_neg (by decide), if_pos (by decide)]
    refine (congrArg (fun q => Option.bind q _) (L80_spec (szM' (sz_ci ha) (by decide)) (szM' (sz_ci hb) (by decide)) hz)).trans ?_
    simp only [Option.bind_some]
    exact div_tail (szM' (flq_sz (sz_ci ha) (by decide)) (by decide)) (szM' ((sz_ci hb).le (Nat.le_of_lt (flr_abs hz))) (by decide)) (dec_len_mono (Nat.le_of_lt (flr_abs hz)) (ci_str hb).2)
  show F33 L78 (a, b, ()) = _
  rw [F33_eq]
  exact (congrArg (fun q => Option.bind q _) h78).trans rfl

def cmpZ (a b : List UInt8) : Int × Int × Unit := if e2 a b = 0 then (sgi (sv a) (sv b), 0, ()) else (0, e2 a b, ())

theorem L39_spec (a b : List UInt8) : L39 (a, b, ()) = some ((cmpZ a b), ()) := by
  show F39 L41 L49 L55 L81 (a, b, ()) = _
  rw [F39_eq, L41_spec, L41_spec]
  simp only [Option.bind_some]
  rw [L55_two]
  simp only [Option.bind_some]
  unfold cmpZ
  by_cases he : e2 a b = 0
  · obtain ⟨ha, hb⟩ := e2_0 he
    rw [if_pos he]
    refine (if_neg (by rw [show (if ciErr a = 0 then ciErr b else ciErr a) = 0 from he]; decide)).trans ?_
    by_cases hab : a = b
    · subst hab
      rw [if_pos (by simp), sgi_eq rfl]
    · rw [if_neg (by simp [hab]), L81_ci ha, L81_ci hb]
      simp only [Option.bind_some]
      exact (congrArg (fun q => Option.bind q _) (L49_spec (szM' (sz_ci ha) (by decide)) (szM' (sz_ci hb) (by decide)))).trans rfl
  · rw [if_neg he]
    exact if_pos (ne_zero_b he)

/-! ### The reference's -/
theorem L71_spec {z : Int} (hz : D.Sz 10000 z) : L71 (D.zl z, ()) = some ((rsZ z), ()) := by
  have h46 := L46_spec (z := z) (hz.mono (by decide)) (by unfold D.Sz at hz; omega)
  show F71 L46 ((decide (z < 0), D.lim z.natAbs), ()) = _
  rw [F71_eq]
  have hl : decide (((D.lim z.natAbs).length : Int) > 100) = decide (100 < (dec z.natAbs).length) := by
    rw [decide_eq_decide]
    by_cases h0 : z.natAbs = 0
    · rw [h0, D.lim_zero, dec_small (by decide)]
      simp
    · rw [dec_length h0]
      omega
  rw [hl]
  unfold rsZ
  by_cases h : 100 < (dec z.natAbs).length
  · rw [if_pos (decide_eq_true h), if_pos h]
  · rw [if_neg (by rw [decide_eq_true_eq]; exact h), if_neg h]
    exact (congrArg (fun q => Option.bind q _) h46).trans rfl

theorem L34_spec {a b : List UInt8} (hla : a.length < 1000000) (hlb : b.length < 1000000) : L34 (a, b, ()) = some ((opZ (· + ·) a b), ()) := by
  show F34 L27 L51 L52 L68 L71 (a, b, ()) = _
  rw [F34_eq, L27_spec hla, L27_spec hlb]
  simp only [Option.bind_some]
  rw [L51_two]
  simp only [Option.bind_some]
  unfold opZ
  by_cases he : e2 a b = 0
  · obtain ⟨ha, hb⟩ := e2_0 he
    rw [if_pos he]
    refine (if_neg (by rw [show (if ciErr a = 0 then ciErr b else ciErr a) = 0 from he]; decide)).trans ?_
    rw [L52_ci ha, L52_ci hb]
    simp only [Option.bind_some]
    refine (congrArg (fun q => Option.bind q _) (L68_spec ((sz_ci ha).mono (by decide)) ((sz_ci hb).mono (by decide)))).trans ?_
    simp only [Option.bind_some]
    exact (congrArg (fun q => Option.bind q _) (L71_spec (((sz_ci ha).add (sz_ci hb)).mono (by decide)))).trans rfl
  · rw [if_neg he]
    exact if_pos (ne_zero_b he)

theorem L35_spec {a b : List UInt8} (hla : a.length < 1000000) (hlb : b.length < 1000000) : L35 (a, b, ()) = some ((opZ (· - ·) a b), ()) := by
  show F35 L27 L51 L52 L71 L82 (a, b, ()) = _
  rw [F35_eq, L27_spec hla, L27_spec hlb]
  simp only [Option.bind_some]
  rw [L51_two]
  simp only [Option.bind_some]
  unfold opZ
  by_cases he : e2 a b = 0
  · obtain ⟨ha, hb⟩ := e2_0 he
    rw [if_pos he]
    refine (if_neg (by rw [show (if ciErr a = 0 then ciErr b else ciErr a) = 0 from he]; decide)).trans ?_
    rw [L52_ci ha, L52_ci hb]
    simp only [Option.bind_some]
    refine (congrArg (fun q => Option.bind q _) (L82_spec ((sz_ci ha).mono (by decide)) ((sz_ci hb).mono (by decide)))).trans ?_
    simp only [Option.bind_some]
    have hs : D.Sz 10000 (sv a - sv b) := by
      rw [Int.sub_eq_add_neg]
      exact ((sz_ci ha).add (sz_ci hb).neg).mono (by decide)
    exact (congrArg (fun q => Option.bind q _) (L71_spec hs)).trans rfl
  · rw [if_neg he]
    exact if_pos (ne_zero_b he)

theorem L36_spec {a b : List UInt8} (hla : a.length < 1000000) (hlb : b.length < 1000000) : L36 (a, b, ()) = some ((opZ (· * ·) a b), ()) := by
  show F36 L27 L51 L52 L69 L71 (a, b, ()) = _
  rw [F36_eq, L27_spec hla, L27_spec hlb]
  simp only [Option.bind_some]
  rw [L51_two]
  simp only [Option.bind_some]
  unfold opZ
  by_cases he : e2 a b = 0
  · obtain ⟨ha, hb⟩ := e2_0 he
    rw [if_pos he]
    refine (if_neg (by rw [show (if ciErr a = 0 then ciErr b else ciErr a) = 0 from he]; decide)).trans ?_
    rw [L52_ci ha, L52_ci hb]
    simp only [Option.bind_some]
    refine (congrArg (fun q => Option.bind q _) (L69_spec ((sz_ci ha).mono (by decide)) ((sz_ci hb).mono (by decide)))).trans ?_
    simp only [Option.bind_some]
    exact (congrArg (fun q => Option.bind q _) (L71_spec (((sz_ci ha).mul (sz_ci hb)).mono (by decide)))).trans rfl
  · rw [if_neg he]
    exact if_pos (ne_zero_b he)

theorem L83_spec {a b : List UInt8} (hla : a.length < 1000000) (hlb : b.length < 1000000) : L83 (a, b, ()) = some ((e3 a b, ()), ()) := by
  have h59 : L59 (b == [48], 34, ()) = some ((if b = [48] then 34 else 0, ()), ()) := by
    show F59 (b == [48], 34, ()) = _
    rw [F59_eq]
    by_cases e : b = [48]
    · rw [if_pos (by rw [beq_iff_eq]; exact e), if_pos e]
    · rw [if_neg (by rw [beq_iff_eq]; exact e), if_neg e]
  show F83 L27 L51 L59 (a, b, ()) = _
  rw [F83_eq, L27_spec hla, L27_spec hlb]
  simp only [Option.bind_some]
  rw [h59]
  simp only [Option.bind_some]
  rw [L51_spec (by simp), fst3]
  rfl

theorem L85_spec {q r : Int} (hq : D.Sz 10000 q) (hr : D.Sz 10000 r) : L85 (D.zl q, D.zl r, ()) = some ((dvZ q r), ()) := by
  have h71 := L71_spec hq
  have h46 := L46_spec (z := r) (hr.mono (by decide)) (by unfold D.Sz at hr; omega)
  show F85 L46 L71 ((decide (q < 0), D.lim q.natAbs), (decide (r < 0), D.lim r.natAbs), ()) = _
  rw [F85_eq]
  refine (congrArg (fun q => Option.bind q _) h71).trans ?_
  simp only [Option.bind_some]
  unfold dvZ
  by_cases h : 100 < (dec q.natAbs).length
  · rw [if_pos h]
    have : rsZ q = ([], 4, ()) := if_pos h
    rw [this]
    exact if_pos (by decide)
  · rw [if_neg h]
    have : rsZ q = (str q, 0, ()) := if_neg h
    rw [this]
    refine (if_neg Bool.false_ne_true).trans ?_
    exact (congrArg (fun q => Option.bind q _) h46).trans rfl

theorem L37_spec {a b : List UInt8} (hla : a.length < 1000000) (hlb : b.length < 1000000) : L37 (a, b, ()) = some ((qrZ Int.tdiv Int.tmod a b), ()) := by
  show F37 L52 L83 L84 L85 (a, b, ()) = _
  rw [F37_eq, L83_spec hla hlb]
  simp only [Option.bind_some]
  unfold qrZ
  by_cases he : e3 a b = 0
  · obtain ⟨h2, h0⟩ := e3_0 he
    obtain ⟨ha, hb⟩ := e2_0 h2
    have hz := sv_ne hb h0
    rw [if_pos he, he, if_neg (by decide), L52_ci ha, L52_ci hb]
    simp only [Option.bind_some]
    refine (congrArg (fun q => Option.bind q _) (L84_spec ((sz_ci ha).mono (by decide)) ((sz_ci hb).mono (by decide)) hz)).trans ?_
    simp only [Option.bind_some]
    exact (congrArg (fun q => Option.bind q _) (L85_spec (((sz_ci ha).le (tdiv_abs _ _)).mono (by decide)) (((sz_ci hb).le (Nat.le_of_lt (tmod_abs hz))).mono (by decide)))).trans rfl
  · rw [if_neg he]
    exact if_pos (ne_zero_b he)

theorem L38_spec {a b : List UInt8} (hla : a.length < 1000000) (hlb : b.length < 1000000) : L38 (a, b, ()) = some ((qrZ flq flr a b), ()) := by
  show F38 L52 L83 L85 L86 (a, b, ()) = _
  rw [F38_eq, L83_spec hla hlb]
  simp only [Option.bind_some]
  unfold qrZ
  by_cases he : e3 a b = 0
  · obtain ⟨h2, h0⟩ := e3_0 he
    obtain ⟨ha, hb⟩ := e2_0 h2
    have hz := sv_ne hb h0
    rw [if_pos he, he, if_neg (by decide), L52_ci ha, L52_ci hb]
    simp only [Option.bind_some]
    refine (congrArg (fun q => Option.bind q _) (L86_spec ((sz_ci ha).mono (by decide)) ((sz_ci hb).mono (by decide)) hz)).trans ?_
    simp only [Option.bind_some]
    exact (congrArg (fun q => Option.bind q _) (L85_spec ((flq_sz (sz_ci ha) (by decide)).mono (by decide)) (((sz_ci hb).le (Nat.le_of_lt (flr_abs hz))).mono (by decide)))).trans rfl
  · rw [if_neg he]
    exact if_pos (ne_zero_b he)

theorem L40_spec {a b : List UInt8} (hla : a.length < 1000000) (hlb : b.length < 1000000) : L40 (a, b, ()) = some ((cmpZ a b), ()) := by
  show F40 L27 L51 L52 L87 (a, b, ()) = _
  rw [F40_eq, L27_spec hla, L27_spec hlb]
  simp only [Option.bind_some]
  rw [L51_two]
  simp only [Option.bind_some]
  unfold cmpZ
  by_cases he : e2 a b = 0
  · obtain ⟨ha, hb⟩ := e2_0 he
    rw [if_pos he]
    refine (if_neg (by rw [show (if ciErr a = 0 then ciErr b else ciErr a) = 0 from he]; decide)).trans ?_
    rw [L52_ci ha, L52_ci hb]
    simp only [Option.bind_some]
    exact (congrArg (fun q => Option.bind q _) (L87_spec ((sz_ci ha).mono (by decide)) ((sz_ci hb).mono (by decide)))).trans rfl
  · rw [if_neg he]
    exact if_pos (ne_zero_b he)
end Go.Proofs.Rf
/- The law of exact integers returns true. -/
namespace Go.Proofs.Rf
open Go Go.RowKit

theorem S8_r0 (F9 : (SV.denL ps9) → Option (rs9).den) (F10 : (SV.denL ps10) → Option (rs10).den) (F27 : (SV.denL ps27) → Option (rs27).den) (F29 : (SV.denL ps29) → Option (rs29).den) (F30 : (SV.denL ps30) → Option (rs30).den) (F31 : (SV.denL ps31) → Option (rs31).den) (F32 : (SV.denL ps32) → Option (rs32).den) (F33 : (SV.denL ps33) → Option (rs33).den) (F34 : (SV.denL ps34) → Option (rs34).den) (F35 : (SV.denL ps35) → Option (rs35).den) (F36 : (SV.denL ps36) → Option (rs36).den) (F37 : (SV.denL ps37) → Option (rs37).den) (F38 : (SV.denL ps38) → Option (rs38).den) (F39 : (SV.denL ps39) → Option (rs39).den) (F40 : (SV.denL ps40) → Option (rs40).den) (F41 : (SV.denL ps41) → Option (rs41).den) (a b : List UInt8) : S8_5 F9 F10 F27 F29 F30 F31 F32 F33 F34 F35 F36 F37 F38 F39 F40 F41 ((a, b, (), (), 3, 0, ()), ([30, 31, 32], [35, 36, 37], ())) = (
  (F29 (a, b, ())).bind fun y => (F34 (a, b, ())).bind fun y_1 =>
    if (!y.1.1 == y_1.1.1) = true then some (Sum.inr (Sum.inl ((false, ()), ())))
    else if (!y.1.2.1 == y_1.1.2.1) = true then some (Sum.inr (Sum.inl ((false, ()), ())))
    else some (Sum.inl ((a, b, (), (), 3, 1, ()), ([30, 31, 32], [35, 36, 37], ()))) : Option (sh8_5.den ⊕ denX w8_5)) := by kernel_rfl

theorem S8_r1 (F9 : (SV.denL ps9) → Option (rs9).den) (F10 : (SV.denL ps10) → Option (rs10).den) (F27 : (SV.denL ps27) → Option (rs27).den) (F29 : (SV.denL ps29) → Option (rs29).den) (F30 : (SV.denL ps30) → Option (rs30).den) (F31 : (SV.denL ps31) → Option (rs31).den) (F32 : (SV.denL ps32) → Option (rs32).den) (F33 : (SV.denL ps33) → Option (rs33).den) (F34 : (SV.denL ps34) → Option (rs34).den) (F35 : (SV.denL ps35) → Option (rs35).den) (F36 : (SV.denL ps36) → Option (rs36).den) (F37 : (SV.denL ps37) → Option (rs37).den) (F38 : (SV.denL ps38) → Option (rs38).den) (F39 : (SV.denL ps39) → Option (rs39).den) (F40 : (SV.denL ps40) → Option (rs40).den) (F41 : (SV.denL ps41) → Option (rs41).den) (a b : List UInt8) : S8_5 F9 F10 F27 F29 F30 F31 F32 F33 F34 F35 F36 F37 F38 F39 F40 F41 ((a, b, (), (), 3, 1, ()), ([30, 31, 32], [35, 36, 37], ())) = (
  (F30 (a, b, ())).bind fun y => (F35 (a, b, ())).bind fun y_1 =>
    if (!y.1.1 == y_1.1.1) = true then some (Sum.inr (Sum.inl ((false, ()), ())))
    else if (!y.1.2.1 == y_1.1.2.1) = true then some (Sum.inr (Sum.inl ((false, ()), ())))
    else some (Sum.inl ((a, b, (), (), 3, 2, ()), ([30, 31, 32], [35, 36, 37], ()))) : Option (sh8_5.den ⊕ denX w8_5)) := by kernel_rfl

theorem S8_r2 (F9 : (SV.denL ps9) → Option (rs9).den) (F10 : (SV.denL ps10) → Option (rs10).den) (F27 : (SV.denL ps27) → Option (rs27).den) (F29 : (SV.denL ps29) → Option (rs29).den) (F30 : (SV.denL ps30) → Option (rs30).den) (F31 : (SV.denL ps31) → Option (rs31).den) (F32 : (SV.denL ps32) → Option (rs32).den) (F33 : (SV.denL ps33) → Option (rs33).den) (F34 : (SV.denL ps34) → Option (rs34).den) (F35 : (SV.denL ps35) → Option (rs35).den) (F36 : (SV.denL ps36) → Option (rs36).den) (F37 : (SV.denL ps37) → Option (rs37).den) (F38 : (SV.denL ps38) → Option (rs38).den) (F39 : (SV.denL ps39) → Option (rs39).den) (F40 : (SV.denL ps40) → Option (rs40).den) (F41 : (SV.denL ps41) → Option (rs41).den) (a b : List UInt8) : S8_5 F9 F10 F27 F29 F30 F31 F32 F33 F34 F35 F36 F37 F38 F39 F40 F41 ((a, b, (), (), 3, 2, ()), ([30, 31, 32], [35, 36, 37], ())) = (
  (F31 (a, b, ())).bind fun y => (F36 (a, b, ())).bind fun y_1 =>
    if (!y.1.1 == y_1.1.1) = true then some (Sum.inr (Sum.inl ((false, ()), ())))
    else if (!y.1.2.1 == y_1.1.2.1) = true then some (Sum.inr (Sum.inl ((false, ()), ())))
    else some (Sum.inl ((a, b, (), (), 3, 3, ()), ([30, 31, 32], [35, 36, 37], ()))) : Option (sh8_5.den ⊕ denX w8_5)) := by kernel_rfl

theorem S8_r3 (F9 : (SV.denL ps9) → Option (rs9).den) (F10 : (SV.denL ps10) → Option (rs10).den) (F27 : (SV.denL ps27) → Option (rs27).den) (F29 : (SV.denL ps29) → Option (rs29).den) (F30 : (SV.denL ps30) → Option (rs30).den) (F31 : (SV.denL ps31) → Option (rs31).den) (F32 : (SV.denL ps32) → Option (rs32).den) (F33 : (SV.denL ps33) → Option (rs33).den) (F34 : (SV.denL ps34) → Option (rs34).den) (F35 : (SV.denL ps35) → Option (rs35).den) (F36 : (SV.denL ps36) → Option (rs36).den) (F37 : (SV.denL ps37) → Option (rs37).den) (F38 : (SV.denL ps38) → Option (rs38).den) (F39 : (SV.denL ps39) → Option (rs39).den) (F40 : (SV.denL ps40) → Option (rs40).den) (F41 : (SV.denL ps41) → Option (rs41).den) (a b : List UInt8) : S8_5 F9 F10 F27 F29 F30 F31 F32 F33 F34 F35 F36 F37 F38 F39 F40 F41 ((a, b, (), (), 3, 3, ()), ([30, 31, 32], [35, 36, 37], ())) = (
  some (Sum.inr (Sum.inr ((a, b, ()), ()))) : Option (sh8_5.den ⊕ denX w8_5)) := by kernel_rfl

theorem limL_go {A B : Type} {f : A → Option (A ⊕ B)} {x y : A} (h : f x = some (.inl y)) : limL f x = limL f y := by rw [limL_eq, h]
theorem limL_end {A B : Type} {f : A → Option (A ⊕ B)} {x : A} {y : B} (h : f x = some (.inr y)) : limL f x = some y := by rw [limL_eq, h]

theorem same_op {X : List UInt8 × Int × Unit} {u v : Option (sh8_5.den ⊕ denX w8_5)} :
    ((some (X, ()) : Option ((List UInt8 × Int × Unit) × Unit)).bind fun y => (some (X, ()) : Option ((List UInt8 × Int × Unit) × Unit)).bind fun y_1 =>
    if (!y.1.1 == y_1.1.1) = true then v
    else if (!y.1.2.1 == y_1.1.2.1) = true then v else u) = u := by
  simp only [Option.bind_some, beq_self_eq_true, Bool.not_true, Bool.false_eq_true, if_false]

noncomputable def T8 (A : (SV.denL ps10) → Option (rs10).den) := S8_5 L9 A L27 L29 L30 L31 L32 L33 L34 L35 L36 L37 L38 L39 L40 L41

theorem g8_spec (A : (SV.denL ps10) → Option (rs10).den) {a b : List UInt8} (hla : a.length < 1000000) (hlb : b.length < 1000000) :
    limL (T8 A) ((a, b, (), (), 3, 0, ()), ([30, 31, 32], [35, 36, 37], ())) = some (Sum.inr ((a, b, ()), ())) := by
  have h0 : T8 A ((a, b, (), (), 3, 0, ()), ([30, 31, 32], [35, 36, 37], ())) = some (.inl ((a, b, (), (), 3, 1, ()), ([30, 31, 32], [35, 36, 37], ()))) := by
    unfold T8
    rw [S8_r0, L29_spec, L34_spec hla hlb]
    exact same_op
  have h1 : T8 A ((a, b, (), (), 3, 1, ()), ([30, 31, 32], [35, 36, 37], ())) = some (.inl ((a, b, (), (), 3, 2, ()), ([30, 31, 32], [35, 36, 37], ()))) := by
    unfold T8
    rw [S8_r1, L30_spec, L35_spec hla hlb]
    exact same_op
  have h2 : T8 A ((a, b, (), (), 3, 2, ()), ([30, 31, 32], [35, 36, 37], ())) = some (.inl ((a, b, (), (), 3, 3, ()), ([30, 31, 32], [35, 36, 37], ()))) := by
    unfold T8
    rw [S8_r2, L31_spec, L36_spec hla hlb]
    exact same_op
  rw [limL_go h0, limL_go h1, limL_go h2]
  exact limL_end (by unfold T8; rw [S8_r3])

theorem law8_of {A : (SV.denL ps10) → Option (rs10).den} (hA : A () = some ((true, ()), ())) (a b : List UInt8) : F8 L9 A L27 L32 L33 L37 L38 L39 L40 L41 (limL (T8 A)) (a, b, ()) = some ((true, ()), ()) := by
  rw [F8_eq, L9_spec (by simp)]
  simp only [Option.bind_some]
  by_cases hsh : shortB [a, b] = true
  · obtain ⟨hla, hlb⟩ := shortB_two hsh
    rw [hsh, if_neg (by decide)]
    refine (congrArg (fun q => Option.bind q _) (g8_spec A (a := a) (b := b) (by omega) (by omega))).trans ?_
    simp only [Option.bind_some, Sum.elim_inr]
    rw [L32_spec, L37_spec (by omega) (by omega), L33_spec, L38_spec (by omega) (by omega), L39_spec, L40_spec (by omega) (by omega)]
    simp only [Option.bind_some, beq_self_eq_true, if_true]
    rw [L41_spec, L27_spec (by omega), hA]
    simp only [Option.bind_some, beq_self_eq_true, if_true]
  · rw [Bool.eq_false_iff.2 hsh, hA]
    rfl

noncomputable def law8 : (SV.denL ps8) → Option (rs8).den := F8 L9 K10 L27 L32 L33 L37 L38 L39 L40 L41 (limL (T8 K10))
theorem law8_ok : CallOK Tryz.prog 8 (mkCall ps8 rs8 law8) := call8 okK10 okL27 okL29 okL30 okL31 okL32 okL33 okL34 okL35 okL36 okL37 okL38 okL39 okL40 okL41 okL9 (lim_limL _)
theorem law8_true (a b : List UInt8) : law8 (a, b, ()) = some ((true, ()), ()) := law8_of K10_val a b
end Go.Proofs.Rf
/- What the listed variables give: the sorts of literals, the powers of ten. -/
namespace Go.Proofs.Rf
open Go Go.ChangeShapes Go.WideShapes Go.ChangeAt Go.RowKit

abbrev laid01 : List (String × DataW Unit) := Go.Proofs.YtofmlmonkfocnaaGreatDoor.Rows.wideTypesRow.laid

theorem cells105 : Tryz.prog.cellsOf 105 = 3 := by kernel_rfl
theorem cells106 : Tryz.prog.cellsOf 106 = 12 := by kernel_rfl
theorem cells9 : Tryz.prog.cellsOf 9 = 1 := by kernel_rfl
theorem cells102 : Tryz.prog.cellsOf 102 = 1 := by kernel_rfl
theorem cells103 : Tryz.prog.cellsOf 103 = 1 := by kernel_rfl
theorem cells36 : Tryz.prog.cellsOf 36 = 1 := by kernel_rfl
theorem cells204 : Tryz.prog.cellsOf 204 = 20 := by kernel_rfl

theorem list12 {A : Type} {l : List A} (h : l.length = 12) : ∃ a b c d e f g i j k m n, l = [a, b, c, d, e, f, g, i, j, k, m, n] := by
  match l, h with
  | [a, b, c, d, e, f, g, i, j, k, m, n], _ => exact ⟨a, b, c, d, e, f, g, i, j, k, m, n, rfl⟩

theorem list3 {A : Type} {l : List A} (h : l.length = 3) : ∃ a b c, l = [a, b, c] := by
  match l, h with
  | [a, b, c], _ => exact ⟨a, b, c, rfl⟩

theorem lit_str {s : ByteArray} {z : List UInt8} {H : Type} (h : (DataW.lit (.string s.data.toList) : DataW H) = .lit (.string z)) : s = ⟨z.toArray⟩ := by
  injection h with h
  injection h with h
  cases s with
  | mk d =>
    congr 1
    apply Array.ext'
    simpa using h

set_option maxRecDepth 100000 in
/-- One sort of literals. -/
theorem sort_elem {W : World} {fuel : Nat} {c0 c1 c2 : Value} {s : List UInt8} {n : Int} {b : UInt8} {r : List UInt8} {q : List MemPlace} {f0 : FuncId}
    (hone : ((List.range Tryz.prog.funcs.size).filter fun f => (Tryz.prog.funcs[f]?).any (·.name.toUTF8.data.toList == b :: r)) = [f0])
    (h : DataW.trod (funcToken Tryz.prog) Tryz.prog W 0 (fun _ => true) true fuel 105 [c0, c1, c2] = some (.agg [.lit (.string s), .lit (.int .u32 n), .held (b :: r)], q)) :
    c0 = .string ⟨s.toArray⟩ ∧ c1 = .int .u32 n ∧ c2 = .func (.func f0) #[] #[] := by
  obtain ⟨xs, m, _, hx, _, hn, hel⟩ := DataW.trod_struct Tryz.underlying105 h
  obtain ⟨y0, y1, y2, rfl⟩ := list3 (by simpa using hn)
  have e0 := hel 0 _ rfl
  have e1 := hel 1 _ rfl
  have e2 := hel 2 _ rfl
  have e0 : DataW.trod (funcToken Tryz.prog) Tryz.prog W 0 (fun _ => true) true m 9 [c0] = some y0 := by
    have this : DataW.trod (funcToken Tryz.prog) Tryz.prog W 0 (fun _ => true) true m 9 (List.take (Tryz.prog.cellsOf 9) (List.drop 0 [c0, c1, c2])) = some y0 := e0
    rw [cells9] at this
    exact this
  have e1 : DataW.trod (funcToken Tryz.prog) Tryz.prog W 0 (fun _ => true) true m 102 [c1] = some y1 := by
    have this : DataW.trod (funcToken Tryz.prog) Tryz.prog W 0 (fun _ => true) true m 102 (List.take (Tryz.prog.cellsOf 102) (List.drop 1 [c0, c1, c2])) = some y1 := e1
    rw [cells102] at this
    exact this
  have e2 : DataW.trod (funcToken Tryz.prog) Tryz.prog W 0 (fun _ => true) true m 103 [c2] = some y2 := by
    have this : DataW.trod (funcToken Tryz.prog) Tryz.prog W 0 (fun _ => true) true m 103 (List.take (Tryz.prog.cellsOf 103) (List.drop 2 [c0, c1, c2])) = some y2 := e2
    rw [cells103] at this
    exact this
  have hx1 := congrArg Prod.fst hx
  simp only [List.map_cons, List.map_nil] at hx1
  injection hx1 with hx1
  injection hx1 with a0 hx1
  injection hx1 with a1 hx1
  injection hx1 with a2 _
  obtain ⟨y0, z0⟩ := y0
  obtain ⟨y1, z1⟩ := y1
  obtain ⟨y2, z2⟩ := y2
  simp only at a0 a1 a2
  subst a0 a1 a2
  obtain ⟨t, hc0, hd0, _⟩ := DataW.trod_string Tryz.underlying9 e0
  obtain ⟨k, hc1, hd1, _⟩ := DataW.trod_int Tryz.underlying102 e1
  injection hc0 with hc0 _
  injection hc1 with hc1 _
  have hd0 := congrArg Prod.fst hd0
  have hd1 := congrArg Prod.fst hd1
  simp only at hd0 hd1
  injection hd1 with hd1
  injection hd1 with _ hd1
  exact ⟨by rw [hc0, lit_str hd0.symm], by rw [hc1, hd1], Go.func_of_trod (f0 := f0) Tryz.underlying103 hone e2⟩

/-- A variable's cells, as its block holds them. -/
theorem var_block {W : World} {name : String} {g : Nat} {us : List Value} (hg : Tryz.prog.globalNamed name = some g) (hv : W.var? Tryz.prog name = some us.toArray) : ∃ e fz, W.heap[g]? = some (.cells us.toArray e fz) := by
  unfold World.var? at hv
  rw [hg] at hv
  simp only [Option.bind_some] at hv
  split at hv
  · rename_i cs' e' fz hh
    injection hv with hv
    subst hv
    exact ⟨e', fz, hh⟩
  · cases hv

theorem radix_var {W : World} (h : laidMetH Tryz.prog laid01 W) : W.var? Tryz.prog "bowline/wide.radixes" = some (List.toArray [.string ⟨#[48, 120]⟩, .int .u32 16, .func (.func 199) #[] #[], .string ⟨#[48, 111]⟩, .int .u32 8, .func (.func 200) #[] #[], .string ⟨#[48, 98]⟩, .int .u32 2, .func (.func 200) #[] #[], .string ⟨#[]⟩, .int .u32 10, .func (.func 200) #[] #[]]) := by
  obtain ⟨g, t, cs, fuel, p, hg, ht, hv, hd⟩ := h.funcs (n := "bowline/wide.radixes") (d := _)
    (List.mem_cons_of_mem _ (List.mem_cons_of_mem _ (List.mem_cons_of_mem _ (List.mem_cons_of_mem _ (List.mem_cons_of_mem _ (List.mem_cons_of_mem _ (List.mem_cons_self ..)))))))
  obtain rfl := Option.some.inj ((show Tryz.prog.globalNamed "bowline/wide.radixes" = some 0 by kernel_rfl).symm.trans hg)
  obtain rfl := Option.some.inj ((show (Tryz.prog.globals[0]?).map (·.type) = some 106 by kernel_rfl).symm.trans ht)
  have hd' : DataW.trod (funcToken Tryz.prog) Tryz.prog W 0 (fun _ => true) true fuel 106 cs.toList = some (.agg [.agg [.lit (.string [48, 120]), .lit (.int .u32 16), .held [98, 111, 119, 108, 105, 110, 101, 47, 119, 105, 100, 101, 46, 104, 101, 120, 97, 100, 101, 99, 105, 109, 97, 108]], .agg [.lit (.string [48, 111]), .lit (.int .u32 8), .held [98, 111, 119, 108, 105, 110, 101, 47, 119, 105, 100, 101, 46, 100, 101, 99, 105, 109, 97, 108]], .agg [.lit (.string [48, 98]), .lit (.int .u32 2), .held [98, 111, 119, 108, 105, 110, 101, 47, 119, 105, 100, 101, 46, 100, 101, 99, 105, 109, 97, 108]], .agg [.lit (.string []), .lit (.int .u32 10), .held [98, 111, 119, 108, 105, 110, 101, 47, 119, 105, 100, 101, 46, 100, 101, 99, 105, 109, 97, 108]]], p) := hd
  obtain ⟨_, _, _, _, hlen, _, _⟩ := DataW.trod_array Tryz.underlying106 hd'
  rw [cells106] at hlen
  obtain ⟨a0, a1, a2, a3, a4, a5, a6, a7, a8, a9, a10, a11, hcs⟩ := list12 hlen
  have el := fun i hi => Go.Lib.array_elem Tryz.underlying106 hd' i hi
  rw [hcs, cells105] at el
  obtain ⟨f0, d0, q0, hd0, h0⟩ := el 0 (by decide)
  obtain ⟨f1, d1, q1, hd1, h1⟩ := el 1 (by decide)
  obtain ⟨f2, d2, q2, hd2, h2⟩ := el 2 (by decide)
  obtain ⟨f3, d3, q3, hd3, h3⟩ := el 3 (by decide)
  obtain rfl := Option.some.inj hd0
  obtain rfl := Option.some.inj hd1
  obtain rfl := Option.some.inj hd2
  obtain rfl := Option.some.inj hd3
  obtain ⟨r0, r1, r2⟩ := sort_elem (f0 := 199) (by kernel_rfl) h0
  obtain ⟨r3, r4, r5⟩ := sort_elem (f0 := 200) (by kernel_rfl) h1
  obtain ⟨r6, r7, r8⟩ := sort_elem (f0 := 200) (by kernel_rfl) h2
  obtain ⟨r9, r10, r11⟩ := sort_elem (f0 := 200) (by kernel_rfl) h3
  rw [hv]
  congr 1
  apply Array.ext'
  rw [hcs, r0, r1, r2, r3, r4, r5, r6, r7, r8, r9, r10, r11]

theorem pow_var {W : World} (h : laidMetH Tryz.prog laid01 W) : W.var? Tryz.prog "internal/strconv.uint64pow10" = some (Lib.pow10Tab.map fun z => Value.int .u64 z).toArray := by
  have h1 := (laidMetH_iff.1 h).1
  obtain ⟨g, t, cs, fuel, p, hg, ht, hv, hd⟩ := Go.Lib.laidMet.reads h1 (n := "internal/strconv.uint64pow10") (d := _) (List.mem_filter.2 ⟨List.mem_cons_of_mem _ (List.mem_cons_of_mem _ (List.mem_cons_self ..)), rfl⟩)
  obtain rfl := Option.some.inj ((show Tryz.prog.globalNamed "internal/strconv.uint64pow10" = some 1 by kernel_rfl).symm.trans hg)
  obtain rfl := Option.some.inj ((show (Tryz.prog.globals[1]?).map (·.type) = some 204 by kernel_rfl).symm.trans ht)
  have hd' : DataW.trod (fun _ => ()) Tryz.prog W 0 (fun _ => true) false fuel 204 cs.toList = some (Lib.tabData .u64 Lib.pow10Tab, p) := hd
  have hcs := Go.Lib.cells_of_tab Tryz.underlying204 Tryz.underlying36 cells36 cells204 hd'
  rw [hv]
  congr 1
  apply Array.ext'
  rw [hcs]

theorem gl01 {W : World} (h : laidMetH Tryz.prog laid01 W) : GlOK W (fun b => b < W.heap.size) := by
  obtain ⟨e0, fz0, h0⟩ := var_block (g := 0) (by kernel_rfl) (radix_var h)
  have hp := pow_var h
  obtain ⟨e1, fz1, h1⟩ := var_block (g := 1) (by kernel_rfl) hp
  intro g us hgl
  unfold glob at hgl
  split at hgl
  · injection hgl with hgl
    subst hgl
    exact ⟨(Array.getElem?_eq_some_iff.1 h0).1, by simp, e0, fz0, h0⟩
  · injection hgl with hgl
    subst hgl
    exact ⟨(Array.getElem?_eq_some_iff.1 h1).1, by simp, e1, fz1, h1⟩
  · cases hgl
end Go.Proofs.Rf
/- A start in which the listed variables are laid. -/
namespace Go.Proofs.Rf
open Go Go.ChangeShapes Go.WideShapes Go.ChangeAt Go.RowKit

noncomputable def door01 (os : Os) : World := (World.doorLaid Tryz.prog 81 os).layVars Tryz.prog (laid01.filter fun x => x.2.handleName?.isNone)
theorem door01_os (os : Os) : (door01 os).os = os := World.layVars_os _ _ _

theorem door01_fits (os : Os) : (World.doorLaid Tryz.prog 81 os).layFits Tryz.prog (laid01.filter fun x => x.2.handleName?.isNone) [] = true := by kernel_rfl
theorem door01_ifaces (os : Os) : (World.doorLaid Tryz.prog 81 os).layIfaces Tryz.prog (laid01.filter fun x => x.2.handleName?.isNone) (door01 os) = true := by kernel_rfl

theorem door01_plain (os : Os) : laidMet Tryz.prog (laid01.filter fun x => x.2.handleName?.isNone) (door01 os) := by
  have hf := door01_fits os
  have hi := door01_ifaces os
  unfold door01 at hi ⊢
  generalize (laid01.filter fun x => x.2.handleName?.isNone) = laid at *
  have e1 : (laid.filter fun x => (laid.map (·.1)).contains x.1) = laid := List.filter_eq_self.2 fun x hx => List.contains_iff_mem.2 (List.mem_map.2 ⟨x, hx, rfl⟩)
  have e2 : (laid.filter fun x => !(laid.map (·.1)).contains x.1) = [] := List.filter_eq_nil_iff.2 fun x hx => by rw [List.contains_iff_mem.2 (List.mem_map.2 ⟨x, hx, rfl⟩)]; simp
  exact laidMet_layVars (w0 := World.doorLaid Tryz.prog 81 os) (laid.map (·.1)) [] (by rw [e1]) (by rw [e1]; exact hf) (by rw [e1]; exact hi) (by rw [e2]; exact LaidIn.none)

theorem door01_met (os : Os) (args : Array Value) : laidMetH Tryz.prog laid01 ((door01 os).forCall (fun _ _ => 0) ⟨#[], args, []⟩).memory :=
  laidMetH_of_parts3 (fuel := 8) ((door01_plain os).of_heap (by simp [World.memory, World.forCall, Input.heap])) (by kernel_rfl) (by kernel_rfl)

theorem door01_shaped (os : Os) (args : Array Value) : ((door01 os).forCall (fun _ _ => 0) ⟨#[], args, []⟩).Shaped Tryz.prog := World.shaped_of_RefB (by kernel_rfl) (by kernel_rfl)
end Go.Proofs.Rf
