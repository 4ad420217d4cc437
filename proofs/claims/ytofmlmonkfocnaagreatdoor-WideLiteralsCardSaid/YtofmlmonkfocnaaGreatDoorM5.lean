/- Texts put together: W3, W4, W5, W6, W7, W8, W9, W10, W11, K01, Z01, W12, W13, W14, W15, W22, W23, W16, W17, W18, W19, W20, Gg, Gh, W21, W24, W25, W26, W27, W28, W29, W30, Gx01, Dr01. -/
import Derived.Test.YtofmlmonkfocnaaGreatDoorM4
import Derived.Lib.ItoaNum
import Derived.Laws.RangeAny
import Derived.Laws.RangeString
import Derived.Below
import Derived.WalkKit
import Derived.ProofKit
import Derived.OpenShut
import Derived.ChangeOld
import Derived.ChangeArms
import Derived.Carry
import Derived.Test.YtofmlmonkfocnaaGreatDoorRows
import Derived.LaidMore
import Derived.LaidSub
import Derived.Lib.LaidU8
import Derived.Lib.LaidTab
import Derived.Stop.Joined
import Derived.Lay
/- Decimal strings; the reference's Read, Write, Text and Small. -/
namespace Go.Proofs.Rf
open Go Go.RowKit D

abbrev dec := Lib.decDigits

/-- All are digits. -/
def IsD (s : List UInt8) : Prop := ∀ c ∈ s, 48 ≤ c.toNat ∧ c.toNat ≤ 57

/-- The value of digits. -/
def dv : List UInt8 → Nat
  | [] => 0
  | c :: s => (c.toNat - 48) * 10 ^ s.length + dv s

theorem dv_append (s t : List UInt8) : dv (s ++ t) = dv s * 10 ^ t.length + dv t := by
  induction s with
  | nil => simp [dv]
  | cons c s ih =>
    simp only [List.cons_append, dv, List.length_append, ih, Nat.pow_add]
    grind

theorem dv_snoc (s : List UInt8) (c : UInt8) : dv (s ++ [c]) = 10 * dv s + (c.toNat - 48) := by
  rw [dv_append]
  simp [dv]
  omega

theorem IsD.nil : IsD [] := fun _ h => by cases h
theorem IsD.append {s t : List UInt8} (h : IsD s) (k : IsD t) : IsD (s ++ t) := fun c hc => (List.mem_append.1 hc).elim (h c) (k c)
theorem IsD.left {s t : List UInt8} (h : IsD (s ++ t)) : IsD s := fun c hc => h c (List.mem_append_left _ hc)
theorem IsD.right {s t : List UInt8} (h : IsD (s ++ t)) : IsD t := fun c hc => h c (List.mem_append_right _ hc)
theorem IsD.one {d : Nat} (h : d < 10) : IsD [UInt8.ofNat (48 + d)] := by
  intro c hc
  rw [List.mem_singleton.1 hc, UInt8.toNat_ofNat']
  omega
theorem IsD.take {s : List UInt8} (h : IsD s) (n : Nat) : IsD (s.take n) := fun c hc => h c (List.mem_of_mem_take hc)
theorem IsD.drop {s : List UInt8} (h : IsD s) (n : Nat) : IsD (s.drop n) := fun c hc => h c (List.mem_of_mem_drop hc)
theorem IsD.getD {s : List UInt8} (h : IsD s) {i : Nat} (hi : i < s.length) : 48 ≤ (s.getD i 0).toNat ∧ (s.getD i 0).toNat ≤ 57 := by
  rw [List.getD_eq_getElem?_getD, List.getElem?_eq_getElem hi]
  exact h _ (List.getElem_mem hi)

theorem ofNat_d {d : Nat} (h : d < 10) : (UInt8.ofNat (48 + d)).toNat - 48 = d := by
  rw [UInt8.toNat_ofNat']
  omega

theorem u8_of {c : UInt8} (h : 48 ≤ c.toNat) : UInt8.ofNat (48 + (c.toNat - 48)) = c := by
  rw [show 48 + (c.toNat - 48) = c.toNat by omega]
  exact UInt8.ofNat_toNat

theorem dec_small {n : Nat} (h : n < 10) : dec n = [UInt8.ofNat (48 + n)] := by rw [dec, Lib.decDigits, dif_pos h]
theorem dec_big {n : Nat} (h : ¬ n < 10) : dec n = dec (n / 10) ++ [UInt8.ofNat (48 + n % 10)] := by rw [dec, Lib.decDigits, dif_neg h]

theorem dec_IsD (n : Nat) : IsD (dec n) := by
  induction n using Nat.strongRecOn with
  | _ n ih =>
    by_cases h : n < 10
    · rw [dec_small h]; exact IsD.one h
    · rw [dec_big h]
      exact (ih _ (by omega)).append (IsD.one (by omega))

theorem dv_dec (n : Nat) : dv (dec n) = n := by
  induction n using Nat.strongRecOn with
  | _ n ih =>
    by_cases h : n < 10
    · rw [dec_small h]
      simp only [dv, List.length_nil, ofNat_d h]
      omega
    · rw [dec_big h, dv_snoc, ih _ (by omega), ofNat_d (by omega)]
      omega

theorem dec_ne (n : Nat) : dec n ≠ [] := by
  by_cases h : n < 10
  · rw [dec_small h]; simp
  · rw [dec_big h]; simp

/-- No zero ahead, but for zero. -/
def NoZ (s : List UInt8) : Prop := s ≠ [] ∧ (s = [48] ∨ s.head? ≠ some 48)

theorem head_append {s t : List UInt8} (h : s ≠ []) : (s ++ t).head? = s.head? := by
  cases s with
  | nil => exact absurd rfl h
  | cons c s => rfl

theorem dec_NoZ (n : Nat) : NoZ (dec n) ∧ (n ≠ 0 → (dec n).head? ≠ some 48) := by
  induction n using Nat.strongRecOn with
  | _ n ih =>
    by_cases h : n < 10
    · rw [dec_small h]
      by_cases h0 : n = 0
      · subst h0
        exact ⟨⟨by simp, .inl rfl⟩, fun q => absurd rfl q⟩
      · have q : [UInt8.ofNat (48 + n)].head? ≠ some 48 := by
          intro e
          have e : UInt8.ofNat (48 + n) = 48 := by simpa using e
          have e := congrArg UInt8.toNat e
          rw [UInt8.toNat_ofNat'] at e
          simp at e
          omega
        exact ⟨⟨by simp, .inr q⟩, fun _ => q⟩
    · have h1 := (ih (n / 10) (by omega)).2 (by omega)
      rw [dec_big h]
      have h2 : (dec (n / 10) ++ [UInt8.ofNat (48 + n % 10)]).head? ≠ some 48 := by
        rw [head_append (dec_ne _)]; exact h1
      exact ⟨⟨by simp, .inr h2⟩, fun _ => h2⟩

theorem dv_pos {s : List UInt8} (hd : IsD s) (hn : s ≠ []) (hz : s.head? ≠ some 48) : 10 ^ (s.length - 1) ≤ dv s := by
  cases s with
  | nil => exact absurd rfl hn
  | cons c s =>
    have h1 := hd c (List.mem_cons_self ..)
    have h2 : c.toNat ≠ 48 := fun e => hz (by simp; exact UInt8.toNat_inj.1 e)
    simp only [dv, List.length_cons, Nat.add_sub_cancel]
    have : 1 * 10 ^ s.length ≤ (c.toNat - 48) * 10 ^ s.length := Nat.mul_le_mul_right _ (by omega)
    omega

/-- A numeral without zeros ahead is the numeral of its value. -/
theorem dec_dv : ∀ {s : List UInt8}, IsD s → NoZ s → dec (dv s) = s := by
  have key : ∀ (n : Nat) (s : List UInt8), s.length = n → IsD s → NoZ s → dec (dv s) = s := by
    intro n
    induction n with
    | zero => intro s hl _ hn; exact absurd (List.eq_nil_of_length_eq_zero hl) hn.1
    | succ n ih =>
      intro s hl hd hn
      obtain ⟨t, c, rfl⟩ : ∃ t c, s = t ++ [c] := ⟨s.dropLast, s.getLast hn.1, (List.dropLast_concat_getLast hn.1).symm⟩
      have hc := hd c (by simp)
      rw [dv_snoc]
      by_cases ht : t = []
      · subst ht
        simp only [dv, Nat.mul_zero, Nat.zero_add, List.nil_append]
        rw [dec_small (by omega), u8_of hc.1]
      · have htz : t.head? ≠ some 48 := by
          rcases hn.2 with q | q
          · have := congrArg List.length q
            simp at this
            exact absurd this ht
          · rw [head_append ht] at q; exact q
        have hp := dv_pos hd.left ht htz
        have hp1 : 0 < dv t := Nat.lt_of_lt_of_le (Nat.pow_pos (by decide)) hp
        rw [dec_big (by omega), show (10 * dv t + (c.toNat - 48)) / 10 = dv t by omega, show (10 * dv t + (c.toNat - 48)) % 10 = c.toNat - 48 by omega, u8_of hc.1, ih t (by simpa using hl) hd.left ⟨ht, .inr htz⟩]
  exact fun {s} hd hn => key _ s rfl hd hn

theorem dec_length_le {n k : Nat} (h : n < 10 ^ k) (hk : 0 < k) : (dec n).length ≤ k := by
  by_cases h0 : n = 0
  · subst h0
    rw [dec_small (by omega)]
    exact hk
  · have h1 := dv_pos (dec_IsD n) (dec_ne n) ((dec_NoZ n).2 h0)
    rw [dv_dec] at h1
    rcases Nat.lt_or_ge k (dec n).length with q | q
    · have := Nat.pow_le_pow_right (n := 10) (by decide) (show k ≤ (dec n).length - 1 by omega)
      omega
    · exact q

/-- The digits, the least ahead. -/
theorem dec_lim : ∀ {n : Nat}, n ≠ 0 → dec n = (lim n).reverse.map fun d => UInt8.ofNat (48 + d.toNat) := by
  intro n
  induction n using Nat.strongRecOn with
  | _ n ih =>
    intro h0
    rw [lim_pos h0]
    by_cases h : n < 10
    · rw [dec_small h, show n / 10 = 0 by omega, lim_zero]
      simp
      congr 2
      omega
    · rw [dec_big h, ih (n / 10) (by omega) (by omega)]
      simp
      congr 1

theorem dec_length {n : Nat} (h : n ≠ 0) : (dec n).length = (lim n).length := by rw [dec_lim h]; simp

/-- The string of a number. -/
def str (z : Int) : List UInt8 := if z < 0 then 45 :: dec z.natAbs else dec z.natAbs

/-- The number of a string. -/
def sv (s : List UInt8) : Int := if s.head? = some 45 then -(dv (s.drop 1) : Int) else dv s

/-! ### Write -/
theorem u8w {d : Int} (h0 : 0 ≤ d) (h1 : d < 10) : IntKind.u8.wrap (IntKind.i64.wrap (48 + d)) = 48 + d := by
  rw [wi (by omega) (by omega), w8 (by omega) (by omega)]

theorem S46_spec {neg : Bool} {l p : List Int} (hw : Wf l) (hl : l.length < 1000000) (hp : p.length ≤ 1) :
    limL S46_7 (((), (), (l.length : Int) - 1, ()), ((neg, l, ()), p, ())) = some (((), ()), p ++ l.reverse.map (fun d => 48 + d), ()) := by
  obtain ⟨z, h1, rfl⟩ := limL_ind (f := S46_7) (fun x => (x.1.2.2.1 + 1).toNat)
    (fun x => ∃ k : Nat, x = (((), (), (k : Int) - 1, ()), ((neg, l, ()), p ++ (l.drop k).reverse.map (fun d => 48 + d), ())) ∧ k ≤ l.length)
    (fun z => z = (((), ()), p ++ l.reverse.map (fun d => 48 + d), ())) (by
    rintro x ⟨k, rfl, hk⟩
    rw [S46_7_eq]
    rcases Nat.eq_zero_or_pos k with rfl | hk0
    · right
      exact ⟨_, if_neg (by simp), rfl⟩
    · obtain ⟨k, rfl⟩ : ∃ k', k = k' + 1 := ⟨k - 1, by omega⟩
      left
      have e1 : ((k + 1 : Nat) : Int) - 1 = (k : Int) := by omega
      have e2 : IntKind.i64.wrap ((k : Int) - 1) = (k : Int) - 1 := wi (by omega) (by omega)
      have hg := hw.getD k
      have hd := drop_at (l := l) (i := k) (by omega)
      refine ⟨(((), (), (k : Int) - 1, ()), ((neg, l, ()), p ++ (l.drop k).reverse.map (fun d => 48 + d), ())), ?_, ⟨k, rfl, by omega⟩, ?_⟩
      · rw [e1, if_pos (decide_eq_true (by omega)), if_pos (by omega), if_pos (by omega), Int.toNat_natCast, u8w hg.1 hg.2, e2, if_pos (by simp; omega), hd]
        simp
      · show ((k : Int) - 1 + 1).toNat < (((k + 1 : Nat) : Int) - 1 + 1).toNat
        omega) (((), (), (l.length : Int) - 1, ()), ((neg, l, ()), p, ())) ⟨l.length, by rw [List.drop_of_length_le (Nat.le_refl _)]; simp, Nat.le_refl _⟩
  exact h1

theorem map_u8 {l : List Int} (hw : Wf l) : (l.map fun d => 48 + d).map (fun n => UInt8.ofNat n.toNat) = l.map fun d => UInt8.ofNat (48 + d.toNat) := by
  rw [List.map_map]
  refine List.map_congr_left fun d hd => ?_
  have := hw d hd
  show UInt8.ofNat (48 + d).toNat = _
  congr 1
  omega

theorem L46_spec {z : Int} (hz : Sz 1000000 z) (hz1 : (lim z.natAbs).length < 1000000) : L46 (zl z, ()) = some ((str z, ()), ()) := by
  have hw := Wf_lim z.natAbs
  show F46 Lg46_7 ((decide (z < 0), lim z.natAbs), ()) = _
  rw [F46_eq]
  unfold str
  by_cases h0 : z = 0
  · subst h0
    rw [show lim (Int.natAbs 0) = [] from lim_zero, if_pos (by rfl), if_neg (by decide), show Int.natAbs 0 = 0 from rfl, dec_small (by decide)]
    rfl
  · have hne : lim z.natAbs ≠ [] := fun e => h0 (by have := lim_eq_nil.1 e; omega)
    have hlen : 0 < (lim z.natAbs).length := List.length_pos_iff.2 hne
    have hr : ((lim z.natAbs).reverse.map fun d => 48 + d).map (fun n => UInt8.ofNat n.toNat) = dec z.natAbs := by
      rw [dec_lim (by omega), List.map_reverse, List.map_reverse, List.map_reverse, map_u8 hw]
    rw [if_neg (by simp; exact hne), wi (by omega) (by omega)]
    by_cases h : z < 0
    · rw [if_pos (decide_eq_true h), if_pos h]
      show (limL S46_7 _).bind _ = _
      rw [S46_spec hw hz1 (by simp)]
      simp only [Option.bind_some, List.map_append]
      rw [hr]
      rfl
    · rw [if_neg (by simpa using h), if_neg h]
      show (limL S46_7 _).bind _ = _
      rw [S46_spec hw hz1 (by simp)]
      simp only [Option.bind_some, List.map_append]
      rw [hr]
      rfl

/-! ### Read -/
theorem u8r {c : UInt8} (h : 48 ≤ c.toNat ∧ c.toNat ≤ 57) : IntKind.i64.wrap (IntKind.u8.wrap ((c.toNat : Int) - 48)) = (c.toNat : Int) - 48 := by
  rw [w8 (by omega) (by omega), wi (by omega) (by omega)]

theorem getD_drop8 {s : List UInt8} {i : Nat} (h : i < s.length) : s.drop i = s.getD i 0 :: s.drop (i + 1) := by
  rw [List.drop_eq_getElem_cons h, List.getD_eq_getElem?_getD, List.getElem?_eq_getElem h]
  rfl

theorem S52_spec {neg : Bool} {s : List UInt8} (hd : IsD s) (hl : s.length < 1000000) :
    limL S52_6 ((s, (), (), (s.length : Int) - 1, ()), ((false, [], ()), (neg, (), ()), [], ())) = some (((), (), ()), ((false, [], ()), (neg, (), ()), s.reverse.map (fun c => (c.toNat : Int) - 48), ())) := by
  obtain ⟨z, h1, rfl⟩ := limL_ind (f := S52_6) (fun x => (x.1.2.2.2.1 + 1).toNat)
    (fun x => ∃ k : Nat, x = ((s, (), (), (k : Int) - 1, ()), ((false, [], ()), (neg, (), ()), (s.drop k).reverse.map (fun c => (c.toNat : Int) - 48), ())) ∧ k ≤ s.length)
    (fun z => z = (((), (), ()), ((false, [], ()), (neg, (), ()), s.reverse.map (fun c => (c.toNat : Int) - 48), ()))) (by
    rintro x ⟨k, rfl, hk⟩
    rw [S52_6_eq]
    rcases Nat.eq_zero_or_pos k with rfl | hk0
    · right
      exact ⟨_, if_neg (by simp), rfl⟩
    · obtain ⟨k, rfl⟩ : ∃ k', k = k' + 1 := ⟨k - 1, by omega⟩
      left
      have e1 : ((k + 1 : Nat) : Int) - 1 = (k : Int) := by omega
      have e2 : IntKind.i64.wrap ((k : Int) - 1) = (k : Int) - 1 := wi (by omega) (by omega)
      have hg := hd.getD (i := k) (by omega)
      refine ⟨((s, (), (), (k : Int) - 1, ()), ((false, [], ()), (neg, (), ()), (s.drop k).reverse.map (fun c => (c.toNat : Int) - 48), ())), ?_, ⟨k, rfl, by omega⟩, ?_⟩
      · rw [e1, if_pos (decide_eq_true (by omega)), if_pos (by omega), if_pos (by omega), Int.toNat_natCast, u8r hg, e2, if_pos (by simp; omega), getD_drop8 (s := s) (i := k) (by omega)]
        simp
      · show ((k : Int) - 1 + 1).toNat < (((k + 1 : Nat) : Int) - 1 + 1).toNat
        omega) ((s, (), (), (s.length : Int) - 1, ()), ((false, [], ()), (neg, (), ()), [], ())) ⟨s.length, by rw [List.drop_of_length_le (Nat.le_refl _)]; simp, Nat.le_refl _⟩
  exact h1

theorem Wf_read {s : List UInt8} (hd : IsD s) : Wf (s.reverse.map fun c => (c.toNat : Int) - 48) := by
  intro x hx
  obtain ⟨c, hc, rfl⟩ := List.mem_map.1 hx
  have := hd c (by simpa using hc)
  omega

theorem val_read {s : List UInt8} (hd : IsD s) : val (s.reverse.map fun c => (c.toNat : Int) - 48) = dv s := by
  induction s with
  | nil => rfl
  | cons c s ih =>
    have h1 := hd c (List.mem_cons_self ..)
    rw [List.reverse_cons, List.map_append, val_append, ih fun x hx => hd x (List.mem_cons_of_mem _ hx)]
    simp only [List.map_cons, List.map_nil, val, List.length_map, List.length_reverse, dv]
    rw [Int.natCast_add, Int.natCast_mul, Int.natCast_pow, show ((c.toNat - 48 : Nat) : Int) = (c.toNat : Int) - 48 by omega]
    grind

theorem L52_nat {s : List UInt8} (hd : IsD s) (hl : s.length < 1000000) : L52 (s, ()) = some ((zl (dv s), ()), ()) := by
  show F52 L96 Lg52_6 (s, ()) = _
  rw [F52_eq]
  have hb : ((Lg52_6 ((s, (), (), IntKind.i64.wrap ((s.length : Int) - 1), ()), (false, [], ()), (false, (), ()), [], ())).bind fun y => (L96 ((y.2.2.1.1, y.2.2.2.1), ())).bind fun y => some (((y.1.1.1, y.1.1.2), ()), ())) = some ((zl (dv s), ()), ()) := by
    rw [wi (by omega) (by omega)]
    show (limL S52_6 _).bind _ = _
    rw [S52_spec hd hl]
    simp only [Option.bind_some]
    rw [L96_spec (Wf_read hd) (by simp; omega), val_read hd, Int.toNat_natCast]
    rfl
  by_cases h0 : s = []
  · rw [if_neg (by rw [h0]; simp)]
    exact hb
  · have hlen : 0 < s.length := List.length_pos_iff.2 h0
    have hg := hd.getD hlen
    rw [if_pos (by simpa using h0), if_pos (by omega), if_neg (by rw [beq_iff_eq]; omega)]
    exact hb

/-! ### Text, Small -/
theorem encR_d {d : Nat} (h : d < 10) : encR (48 + (d : Int)) = [UInt8.ofNat (48 + d)] := by
  rcases (show d = 0 ∨ d = 1 ∨ d = 2 ∨ d = 3 ∨ d = 4 ∨ d = 5 ∨ d = 6 ∨ d = 7 ∨ d = 8 ∨ d = 9 by omega) with rfl | rfl | rfl | rfl | rfl | rfl | rfl | rfl | rfl | rfl <;> decide +kernel

theorem w32i {n : Int} (h0 : -2147483648 ≤ n) (h1 : n < 2147483648) : IntKind.i32.wrap n = n := by
  simp [IntKind.wrap, IntKind.bits, IntKind.signed]
  omega

theorem iterF_succ {A B : Type} (Φ : (A → Option B) → A → Option B) (n : Nat) (x : A) : iterF Φ (n + 1) x = Φ (iterF Φ n) x := rfl

theorem F140_small (R : (SV.denL ps140) → Option (rs140).den) {n : Nat} (h9 : n < 10) : F140 R ((n : Int), 0, ()) = some ((dec n, ()), ()) := by
  have e1 : IntKind.i64.wrap ((n : Int) + 0) = (n : Int) := by rw [Int.add_zero, wi (by omega) (by omega)]
  have e2 : IntKind.i32.wrap (IntKind.i64.wrap (IntKind.i64.wrap (48 + (n : Int)) + 0)) = 48 + (n : Int) := by
    rw [wi (n := 48 + (n : Int)) (by omega) (by omega), Int.add_zero, wi (by omega) (by omega), w32i (by omega) (by omega)]
  rw [F140_eq, if_pos (decide_eq_true (by omega)), e1, if_pos (decide_eq_true (by omega)), e2, encR_d (by omega), dec_small (by omega)]

theorem F140_big (R : (SV.denL ps140) → Option (rs140).den) {n : Nat} (h9 : ¬ n < 10) (hn : n < 9223372036854775808) (hR : R (((n / 10 : Nat) : Int), 0, ()) = some ((dec (n / 10), ()), ())) : F140 R ((n : Int), 0, ()) = some ((dec n, ()), ()) := by
  have t1 := tdivB (n := (n : Int)) (by omega)
  have u1 := tmodB (n := (n : Int)) (by omega)
  have e0 : IntKind.i64.wrap ((n : Int) / 10) = ((n / 10 : Nat) : Int) := by rw [wi (by omega) (by omega)]; omega
  have e1 : IntKind.i64.wrap ((n : Int) % 10 + 0) = ((n % 10 : Nat) : Int) := by rw [wi (by omega) (by omega)]; omega
  have e2 : IntKind.i64.wrap (((n % 10 : Nat) : Int).tdiv 10) = 0 := by
    rw [tdivB (by omega), wi (by omega) (by omega)]; omega
  have e3 : IntKind.i32.wrap (IntKind.i64.wrap (48 + ((n % 10 : Nat) : Int).tmod 10)) = 48 + ((n % 10 : Nat) : Int) := by
    rw [tmodB (by omega), wi (by omega) (by omega), w32i (by omega) (by omega)]; omega
  have hL : (dec (n / 10)).length ≤ 19 := dec_length_le (show n / 10 < 10 ^ 19 by omega) (by decide)
  rw [F140_eq, if_neg (by simp; omega), t1, u1, e0, e1, e2, hR, e3, encR_d (by omega)]
  simp only [Option.bind_some]
  rw [if_pos (by simp; omega), ← dec_big h9]

theorem L140_fuel : ∀ (k n : Nat), n < 10 ^ (k + 1) → n < 9223372036854775808 → iterF (fun R => F140 R) (k + 1) ((n : Int), 0, ()) = some ((dec n, ()), ()) := by
  intro k
  induction k with
  | zero =>
    intro n h hn
    rw [iterF_succ]
    exact F140_small _ (by omega)
  | succ k ih =>
    intro n h hn
    rw [iterF_succ]
    by_cases h9 : n < 10
    · exact F140_small _ h9
    · exact F140_big _ h9 hn (ih (n / 10) (by rw [Nat.pow_succ] at h; omega) (by omega))

theorem L140_spec {n : Nat} (h : n < 9223372036854775808) : L140 ((n : Int), 0, ()) = some ((dec n, ()), ()) :=
  L140_fuel 99 n (Nat.lt_trans h (by decide)) h

theorem L113_spec {n : Nat} (h : n < 9223372036854775808) : L113 ((n : Int), ()) = some ((dec n, ()), ()) := by
  show F113 L140 ((n : Int), ()) = _
  rw [F113_eq, if_neg (by simp), L140_spec h]
  rfl

theorem L70_spec {n : Nat} (h : n < 9223372036854775808) : L70 ((n : Int), ()) = some ((zl n, ()), ()) := by
  show F70 L52 L113 ((n : Int), ()) = _
  have hl := dec_length_le (n := n) (k := 19) (Nat.lt_trans h (by decide)) (by decide)
  rw [F70_eq, L113_spec h]
  simp only [Option.bind_some]
  rw [L52_nat (dec_IsD n) (by omega), dv_dec]
  rfl
end Go.Proofs.Rf
/- The reference's products, powers and order. -/
namespace Go.Proofs.Rf
open Go Go.RowKit D

theorem S69_7_spec {p q p2 : Bool} {a b l2 r : List Int} {i : Nat} (wa : Wf a) (wb : Wf b) (sa : a.length < 1000000) (sb : b.length < 1000000) (wr : Wf r) (hr : r.length = a.length + b.length + 1) (hi : i < a.length) (h0 : ∀ j, i + b.length ≤ j → r.getD j 0 = 0) :
    ∃ r', limL (S69_7 L112) (((), (), (), (), (i : Int), 0, 0, ()), ((p, a, ()), (q, b, ()), (p2, l2, ()), r, ())) = some (((), (), (), (), (i : Int), ()), ((p, a, ()), (q, b, ()), (p2, l2, ()), r', ())) ∧ InnerOK b r i (a.getD i 0) (b.length + 1) 0 r' := by
  have xa := wa.getD i
  obtain ⟨z, h1, r', rfl, h2⟩ := limL_ind (f := S69_7 L112) (fun x => b.length + 1 - x.1.2.2.2.2.2.2.1.toNat)
    (fun x => ∃ (c : Int) (k : Nat) (r' : List Int), x = (((), (), (), (), (i : Int), c, (k : Int), ()), ((p, a, ()), (q, b, ()), (p2, l2, ()), r', ())) ∧ k ≤ b.length + 1 ∧ (k = b.length + 1 → c = 0) ∧ InnerOK b r i (a.getD i 0) k c r')
    (fun z => ∃ (r' : List Int), z = (((), (), (), (), (i : Int), ()), ((p, a, ()), (q, b, ()), (p2, l2, ()), r', ())) ∧ InnerOK b r i (a.getD i 0) (b.length + 1) 0 r') (by
    rintro x ⟨c, k, r', rfl, hk, hkc, hI⟩
    by_cases hd : k ≤ b.length
    · left
      have hst := hI.step wb xa.1 xa.2 (by omega)
      have hc := hI.c0
      have hc1 := hI.c1
      refine ⟨_, ?_, ⟨_, k + 1, _, rfl, by omega, ?_, hst⟩, by simp only [Int.toNat_natCast]; omega⟩
      · have xb := wb.getD k
        have xr := hI.wf.getD (i + k)
        have hb := mul_bound hI.c0 hI.c1 xa.1 xa.2 xb.1 xb.2 xr.1 xr.2
        have hl := hI.len
        have qb : L112 (b, (k : Int), ()) = _ := L112_spec k
        rw [S69_7_eq, qb]
        have e0 : IntKind.i64.wrap ((i : Int) + (k : Int)) = ((i + k : Nat) : Int) := by rw [wi (by omega) (by omega)]; omega
        simp only [e0, Int.toNat_natCast, decide_eq_true_eq, Option.bind_some]
        rw [if_pos (by omega), if_pos (by omega), if_pos (by omega), if_pos (by omega), if_pos (by omega), if_pos (by omega), if_pos (by omega)]
        generalize a.getD i 0 = A at *
        generalize b.getD k 0 = B at *
        generalize r'.getD (i + k) 0 = E at *
        obtain ⟨b1, b2, b3, b4⟩ := hb
        generalize hM : A * B = M at *
        have e4 : IntKind.i64.wrap M = M := wi (by omega) (by omega)
        have e5 : IntKind.i64.wrap (E + M) = E + M := wi (by omega) (by omega)
        have e6 : IntKind.i64.wrap (E + M + c) = c + M + E := by rw [wi (by omega) (by omega)]; omega
        have e7 : IntKind.i64.wrap ((k : Int) + 1) = ((k + 1 : Nat) : Int) := by rw [wi (by omega) (by omega)]; omega
        have d1 : IntKind.i64.wrap ((c + M + E) / 10) = (c + M + E) / 10 := wi (by omega) (by omega)
        have t1 := tdivB (n := c + M + E) (by omega)
        have u1 := tmodB (n := c + M + E) (by omega)
        simp only [e4, e5, e6, e7, t1, u1, d1]
      · intro e
        have e : k = b.length := by omega
        have g1 : b.getD k 0 = 0 := getD_big (by omega)
        have g2 : r'.getD (i + k) 0 = 0 := by rw [hI.hi _ (Nat.le_refl _), h0 _ (by omega)]
        rw [g1, g2]
        omega
    · right
      have hkb : k = b.length + 1 := by omega
      subst hkb
      have hc := hkc rfl
      subst hc
      refine ⟨_, ?_, r', rfl, hI⟩
      rw [S69_7_eq, if_neg (by simp; omega)]) (((), (), (), (), (i : Int), 0, ((0 : Nat) : Int), ()), ((p, a, ()), (q, b, ()), (p2, l2, ()), r, ())) ⟨0, 0, r, rfl, by omega, fun _ => rfl, InnerOK.zero wr⟩
  exact ⟨r', h1, h2⟩

/-- The outer loop: a's first i digits times b. -/
structure OutD (a b : List Int) (i : Nat) (r : List Int) : Prop where
  len : r.length = a.length + b.length + 1
  wf : Wf r
  vl : val r = val (a.take i) * val b
  hi : ∀ j, i + b.length ≤ j → r.getD j 0 = 0

theorem OutD.zero (a b : List Int) : OutD a b 0 (List.replicate (a.length + b.length + 1) 0) :=
  ⟨by simp, Wf.replicate _, by simp [val, val_replicate], fun j _ => by
    rw [List.getD_eq_getElem?_getD, List.getElem?_replicate]
    split <;> rfl⟩

theorem OutD.step {a b : List Int} {i : Nat} {r r' : List Int} (h : OutD a b i r) (hI : InnerOK b r i (a.getD i 0) (b.length + 1) 0 r') : OutD a b (i + 1) r' := by
  have hl := h.len
  have hl' := hI.len
  refine ⟨by omega, hI.wf, ?_, fun j hj => ?_⟩
  · rw [val_take_succ]
    have e1 := hI.vl
    have e2 := h.vl
    rw [val_take_all (show b.length ≤ b.length + 1 by omega)] at e1
    grind
  · rw [hI.hi _ (by omega), h.hi _ (by omega)]

theorem S69_3_spec {p q p2 : Bool} {a b l2 : List Int} (wa : Wf a) (wb : Wf b) (sa : a.length < 1000000) (sb : b.length < 1000000) :
    ∃ r, limL (S69_3 Lg69_7) (((), (), (), (), 0, ()), ((p, a, ()), (q, b, ()), (p2, l2, ()), List.replicate (a.length + b.length + 1) 0, ())) = some (((), (), (), (), ()), ((p, a, ()), (q, b, ()), (p2, l2, ()), r, ())) ∧ OutD a b a.length r := by
  obtain ⟨z, h1, r, rfl, hO⟩ := limL_ind (f := S69_3 Lg69_7) (fun x => a.length - x.1.2.2.2.2.1.toNat)
    (fun x => ∃ (i : Nat) (r : List Int), x = (((), (), (), (), (i : Int), ()), ((p, a, ()), (q, b, ()), (p2, l2, ()), r, ())) ∧ i ≤ a.length ∧ OutD a b i r)
    (fun z => ∃ r : List Int, z = (((), (), (), (), ()), ((p, a, ()), (q, b, ()), (p2, l2, ()), r, ())) ∧ OutD a b a.length r) (by
    rintro x ⟨i, r, rfl, hi, hO⟩
    by_cases hd : i < a.length
    · left
      obtain ⟨r', q1, q2⟩ := S69_7_spec (p := p) (q := q) (p2 := p2) (l2 := l2) wa wb sa sb hO.wf hO.len hd hO.hi
      refine ⟨_, ?_, ⟨i + 1, _, rfl, by omega, hO.step q2⟩, by simp only [Int.toNat_natCast]; omega⟩
      have q1 : Lg69_7 (((), (), (), (), (i : Int), 0, 0, ()), ((p, a, ()), (q, b, ()), (p2, l2, ()), r, ())) = _ := q1
      rw [S69_3_eq, if_pos (decide_eq_true (by omega)), q1]
      have e7 : IntKind.i64.wrap ((i : Int) + 1) = ((i + 1 : Nat) : Int) := by rw [wi (by omega) (by omega)]; omega
      simp only [Option.bind_some, e7]
    · right
      have hia : i = a.length := by omega
      subst hia
      refine ⟨_, ?_, r, rfl, hO⟩
      rw [S69_3_eq, if_neg (by simp)]) (((), (), (), (), ((0 : Nat) : Int), ()), ((p, a, ()), (q, b, ()), (p2, l2, ()), List.replicate (a.length + b.length + 1) 0, ())) ⟨0, _, rfl, by omega, OutD.zero a b⟩
  exact ⟨r, h1, hO⟩

theorem L69_spec {x y : Int} (hx : Sz 999999 x) (hy : Sz 999999 y) : L69 (zl x, zl y, ()) = some ((zl (x * y), ()), ()) := by
  unfold Sz at hx hy
  show F69 L96 Lg69_3 ((decide (x < 0), lim x.natAbs), (decide (y < 0), lim y.natAbs), ()) = _
  obtain ⟨r, h1, hO⟩ := S69_3_spec (p := decide (x < 0)) (q := decide (y < 0)) (p2 := false) (l2 := []) (Wf_lim x.natAbs) (Wf_lim y.natAbs) (by omega) (by omega)
  have hw : IntKind.i64.wrap (IntKind.i64.wrap (((lim x.natAbs).length : Int) + ((lim y.natAbs).length : Int)) + 1) = (((lim x.natAbs).length + (lim y.natAbs).length + 1 : Nat) : Int) := by
    rw [wi (n := ((lim x.natAbs).length : Int) + ((lim y.natAbs).length : Int)) (by omega) (by omega), wi (by omega) (by omega)]
    omega
  have h1 : Lg69_3 (((), (), (), (), 0, ()), ((decide (x < 0), lim x.natAbs, ()), (decide (y < 0), lim y.natAbs, ()), (false, [], ()), List.replicate ((lim x.natAbs).length + (lim y.natAbs).length + 1) 0, ())) = _ := h1
  rw [F69_eq, hw, if_pos (by omega), if_pos (by omega), if_pos (by omega), Int.toNat_natCast, h1]
  simp only [Option.bind_some]
  have hl := hO.len
  have hv := hO.vl
  rw [val_take_all (Nat.le_refl _), val_lim, val_lim, ← Int.natCast_mul] at hv
  rw [L96_spec hO.wf (by omega), hv, Int.toNat_natCast, sgn_mul]
  rfl

end Go.Proofs.Rf
/- The reference's quotients and remainders. -/
namespace Go.Proofs.Rf
open Go Go.RowKit D
end Go.Proofs.Rf
/- Numerals and names of types: what both texts check. -/
namespace Go.Proofs.Rf
open Go Go.RowKit D

theorem decode_lo {s : List UInt8} {p : Nat} (hp : p < s.length) (h : (s.getD p 0).toNat < 128) : Utf8.decode ⟨s.toArray⟩ p = ((s.getD p 0).toNat, 1) := by
  have hp' : p < (⟨s.toArray⟩ : ByteArray).size := by simpa [ByteArray.size] using hp
  have e : (⟨s.toArray⟩ : ByteArray)[p]'hp' = s.getD p 0 := by
    rw [List.getD_eq_getElem?_getD, List.getElem?_eq_getElem hp]
    rfl
  have := decode_ascii ⟨s.toArray⟩ p hp' (by rw [e]; exact h)
  rw [e] at this
  exact this

theorem decode_hi {s : List UInt8} {p : Nat} (hp : p < s.length) (h : 128 ≤ (s.getD p 0).toNat) : 128 ≤ (Utf8.decode ⟨s.toArray⟩ p).1 := by
  have hp' : p < (⟨s.toArray⟩ : ByteArray).size := by simpa [ByteArray.size] using hp
  have e : (⟨s.toArray⟩ : ByteArray)[p]'hp' = s.getD p 0 := by
    rw [List.getD_eq_getElem?_getD, List.getElem?_eq_getElem hp]
    rfl
  exact (decode_high ⟨s.toArray⟩ p hp' (by rw [e]; exact h)).1

def isd (c : UInt8) : Bool := decide (48 ≤ c.toNat) && decide (c.toNat ≤ 57)

/-- A numeral: digits alone, one at least, no zeros ahead. -/
def num (s : List UInt8) : Bool := s.all isd && !(s == []) && (s == [48] || !(s.getD 0 0 == 48))

/-! ### The reference's numbers -/
theorem L72_spec (c : UInt8) : L72 ((c.toNat : Int), ()) = some ((isd c, ()), ()) := by
  show F72 ((c.toNat : Int), ()) = _
  rw [F72_eq]
  unfold isd
  by_cases h : 48 ≤ c.toNat
  · rw [if_pos (by simp; omega), decide_eq_true h, Bool.true_and]
    congr 3
    rw [decide_eq_decide]
    omega
  · rw [if_neg (by simp; omega), decide_eq_false h, Bool.false_and]

end Go.Proofs.Rf
/- Names of types, exact integers: what both texts check. -/
namespace Go.Proofs.Rf
open Go Go.RowKit D

/-- A type's name: signed, width, error. -/
def tyS (t : List UInt8) : Bool := t.getD 0 0 == 105
def tyN (t : List UInt8) : Nat := dv (t.drop 1)
def tyOK (t : List UInt8) : Bool := (t.getD 0 0 == 117 || t.getD 0 0 == 105) && num (t.drop 1) && decide (t.length ≤ 4)
def tyErr (t : List UInt8) : Int := if tyOK t = true then (if 64 < tyN t ∨ (tyS t = true ∧ tyN t = 0) then 3 else 0) else 6

end Go.Proofs.Rf
/- Exact integers: what both texts check. -/
namespace Go.Proofs.Rf
open Go Go.RowKit D
/-! ### Exact integers -/
def isNeg (s : List UInt8) : Bool := s.getD 0 0 == 45
def body (s : List UInt8) : List UInt8 := if isNeg s = true then s.drop 1 else s
def ciErr (s : List UInt8) : Int := if num (body s) = true ∧ ¬ s = [45, 48] then (if 100 < (body s).length then 4 else 0) else 1

end Go.Proofs.Rf
/- The library's FormatUint in base ten. -/
namespace Go.Proofs.Rf
open Go Go.RowKit D

/-- What the stores keep: n digits in all, nd places still to be filled, v is left. -/
structure FI (n u nd v : Nat) (r : List Int) : Prop where
  len : r.length = 24
  n24 : n ≤ 24
  le : nd ≤ n
  rest : v = u / 10 ^ (n - nd)
  small : v < 10 ^ nd
  done : ∀ t, nd ≤ t → t < n → r.getD t 0 = 48 + ((u / 10 ^ (n - 1 - t) % 10 : Nat) : Int)

theorem FI.end {n u v : Nat} {r : List Int} (hn : n = Lib.nDigits u) (h : FI n u 0 v r) : (r.take n).map (fun x => UInt8.ofNat x.toNat) = dec u := by
  have hl := h.len
  have h24 := h.n24
  rw [dec, Lib.decDigits_eq, ← hn]
  refine List.ext_getElem (by simp; omega) fun t h1 h2 => ?_
  have ht : t < n := by simpa using h2
  rw [List.getElem_map, List.getElem_take, List.getElem_map, List.getElem_range]
  have h3 := h.done t (by omega) ht
  rw [List.getD_eq_getElem?_getD, List.getElem?_eq_getElem (by omega)] at h3
  have h3 : r[t] = 48 + ((u / 10 ^ (n - 1 - t) % 10 : Nat) : Int) := h3
  rw [h3]
  unfold Lib.dg
  congr 1

end Go.Proofs.Rf
/- The library's FormatUint in base ten: the last digits. -/
namespace Go.Proofs.Rf
open Go Go.RowKit D
end Go.Proofs.Rf
/- FormatUint; the limits of a type, in both texts; Check, Width, Limits. -/
namespace Go.Proofs.Rf
open Go Go.RowKit D
/-! ### Limits -/
def lo (n : Nat) (s : Bool) : Int := if s = true then -((2 ^ (n - 1) : Nat) : Int) else 0
def hi (n : Nat) (s : Bool) : Int := if s = true then ((2 ^ (n - 1) - 1 : Nat) : Int) else ((2 ^ n - 1 : Nat) : Int)

theorem str_nat (n : Nat) : str (n : Int) = dec n := by unfold str; rw [if_neg (by omega), Int.natAbs_natCast]
/-! ### Law 3's functions -/
def W3 (t : List UInt8) : Int × Bool × Int × Unit := if tyErr t = 0 then ((tyN t : Int), tyS t, 0, ()) else (0, false, tyErr t, ())

end Go.Proofs.Rf
/- The functions, filled in. -/
set_option linter.unusedVariables false
namespace Go.Proofs.Rf
open Go Go.RowKit
noncomputable def Kg89_2 : sh89_2.den → Option (denX w89_2) := iterL (S89_2) 100
noncomputable def K89 : (SV.denL ps89) → Option (rs89).den := F89 Kg89_2
theorem okK89 : CallOK Tryz.prog 89 (mkCall ps89 rs89 K89) := call89 (lim_iterL _ _)
noncomputable def Kg121_10 : sh121_10.den → Option (denX w121_10) := iterL (S121_10) 100
noncomputable def K121 : (SV.denL ps121) → Option (rs121).den := F121 Kg121_10
theorem okK121 : CallOK Tryz.prog 121 (mkCall ps121 rs121 K121) := call121 (lim_iterL _ _)
noncomputable def K90 : (SV.denL ps90) → Option (rs90).den := F90 K121
theorem okK90 : CallOK Tryz.prog 90 (mkCall ps90 rs90 K90) := call90 okK121
noncomputable def K42 : (SV.denL ps42) → Option (rs42).den := F42 K89 K90
theorem okK42 : CallOK Tryz.prog 42 (mkCall ps42 rs42 K42) := call42 okK89 okK90
noncomputable def K11 : (SV.denL ps11) → Option (rs11).den := F11 K42
theorem okK11 : CallOK Tryz.prog 11 (mkCall ps11 rs11 K11) := call11 okK42
noncomputable def K57 : (SV.denL ps57) → Option (rs57).den := F57
theorem okK57 : CallOK Tryz.prog 57 (mkCall ps57 rs57 K57) := call57
noncomputable def K126 : (SV.denL ps126) → Option (rs126).den := F126
theorem okK126 : CallOK Tryz.prog 126 (mkCall ps126 rs126 K126) := call126
abbrev K127 : (SV.denL ps127) → Option (rs127).den := F127
theorem okK127 : CallOK Tryz.prog 127 (mkCall ps127 rs127 K127) := call127
noncomputable def Kg128z_1 : sh128z_1.den → Option (denX w128z_1) := iterL (S128z_1) 100
noncomputable def K128z : (psh128z.den) → Option (rs128z).den := F128z Kg128z_1
theorem okK128z : CallOK Tryz.prog 128 (mkCallB psh128z rs128z m128z 1 K128z) := call128z (lim_iterL _ _)
noncomputable def K98 : (SV.denL ps98) → Option (rs98).den := F98 K126 K127 K128z
theorem okK98 : CallOK Tryz.prog 98 (mkCall ps98 rs98 K98) := call98 okK126 okK127 okK128z
noncomputable def K58 : (SV.denL ps58) → Option (rs58).den := F58 K98
theorem okK58 : CallOK Tryz.prog 58 (mkCall ps58 rs58 K58) := call58 okK98
noncomputable def K44 : (SV.denL ps44) → Option (rs44).den := F44 K57 K58
theorem okK44 : CallOK Tryz.prog 44 (mkCall ps44 rs44 K44) := call44 okK57 okK58
noncomputable def K13 : (SV.denL ps13) → Option (rs13).den := F13 K42 K44
theorem okK13 : CallOK Tryz.prog 13 (mkCall ps13 rs13 K13) := call13 okK42 okK44
noncomputable def K15 : (SV.denL ps15) → Option (rs15).den := F15 K42
theorem okK15 : CallOK Tryz.prog 15 (mkCall ps15 rs15 K15) := call15 okK42
noncomputable def Kg55_2 : sh55_2.den → Option (denX w55_2) := iterL (S55_2) 100
noncomputable def K55 : (SV.denL ps55) → Option (rs55).den := F55 Kg55_2
theorem okK55 : CallOK Tryz.prog 55 (mkCall ps55 rs55 K55) := call55 (lim_iterL _ _)
noncomputable def K56 : (SV.denL ps56) → Option (rs56).den := F56
theorem okK56 : CallOK Tryz.prog 56 (mkCall ps56 rs56 K56) := call56
noncomputable def K100 : (SV.denL ps100) → Option (rs100).den := F100
theorem okK100 : CallOK Tryz.prog 100 (mkCall ps100 rs100 K100) := call100
noncomputable def K120 : (SV.denL ps120) → Option (rs120).den := F120 K100
theorem okK120 : CallOK Tryz.prog 120 (mkCall ps120 rs120 K120) := call120 okK100
noncomputable def K88 : (SV.denL ps88) → Option (rs88).den := F88 K120
theorem okK88 : CallOK Tryz.prog 88 (mkCall ps88 rs88 K88) := call88 okK120
noncomputable def K41 : (SV.denL ps41) → Option (rs41).den := F41 K55 K56 K88 K89
theorem okK41 : CallOK Tryz.prog 41 (mkCall ps41 rs41 K41) := call41 okK55 okK56 okK88 okK89
noncomputable def Kg101_1 : sh101_1.den → Option (denX w101_1) := iterL (S101_1) 100
noncomputable def K101 : (SV.denL ps101) → Option (rs101).den := F101 Kg101_1
theorem okK101 : CallOK Tryz.prog 101 (mkCall ps101 rs101 K101) := call101 (lim_iterL _ _)
noncomputable def K115 : (SV.denL ps115) → Option (rs115).den := F115 K101
theorem okK115 : CallOK Tryz.prog 115 (mkCall ps115 rs115 K115) := call115 okK101
noncomputable def K118 : (SV.denL ps118) → Option (rs118).den := F118
theorem okK118 : CallOK Tryz.prog 118 (mkCall ps118 rs118 K118) := call118
noncomputable def KD142 : Dt142 := colK (B142) (Y142) 100
theorem okKI142 : IterOK Tryz.prog 142 encs142 (cap142 KD142) := it142 (coll_colK _ _ _)
noncomputable def Kg81_4 : List El142 → sh81_4.den → Option (sh81_4.den ⊕ denX w81_4) := foldR (S81_4 K90)
noncomputable def K81 : (SV.denL ps81) → Option (rs81).den := F81 K88 K115 K118 KD142 Kg81_4
theorem okK81 : CallOK Tryz.prog 81 (mkCall ps81 rs81 K81) := call81 okKI142 okK115 okK118 okK88 okK90 rfl
noncomputable def K47 : (SV.denL ps47) → Option (rs47).den := F47 K41 K42 K55 K81
theorem okK47 : CallOK Tryz.prog 47 (mkCall ps47 rs47 K47) := call47 okK41 okK42 okK55 okK81
noncomputable def K148 : (SV.denL ps148) → Option (rs148).den := F148
theorem okK148 : CallOK Tryz.prog 148 (mkCall ps148 rs148 K148) := call148
noncomputable def K123 : (SV.denL ps123) → Option (rs123).den := F123 K148
theorem okK123 : CallOK Tryz.prog 123 (mkCall ps123 rs123 K123) := call123 okK148
noncomputable def K149 : (SV.denL ps149) → Option (rs149).den := F149
theorem okK149 : CallOK Tryz.prog 149 (mkCall ps149 rs149 K149) := call149
noncomputable def K124 : (SV.denL ps124) → Option (rs124).den := F124 K149
theorem okK124 : CallOK Tryz.prog 124 (mkCall ps124 rs124 K124) := call124 okK149
noncomputable def Kg94_5 : sh94_5.den → Option (denX w94_5) := iterL (S94_5 K124) 100
noncomputable def K94 : (SV.denL ps94) → Option (rs94).den := F94 K123 Kg94_5
theorem okK94 : CallOK Tryz.prog 94 (mkCall ps94 rs94 K94) := call94 okK123 okK124 (lim_iterL _ _)
noncomputable def K49 : (SV.denL ps49) → Option (rs49).den := F49 K94
theorem okK49 : CallOK Tryz.prog 49 (mkCall ps49 rs49 K49) := call49 okK94
noncomputable def K48 : (SV.denL ps48) → Option (rs48).den := F48 K44 K49 K81
theorem okK48 : CallOK Tryz.prog 48 (mkCall ps48 rs48 K48) := call48 okK44 okK49 okK81
noncomputable def K95 : (SV.denL ps95) → Option (rs95).den := F95
theorem okK95 : CallOK Tryz.prog 95 (mkCall ps95 rs95 K95) := call95
noncomputable def KD125 : Dt125 := colK (B125) (Y125) 100
theorem okKI125 : IterOK Tryz.prog 125 encs125 (cap125 KD125) := it125 (coll_colK _ _ _)
noncomputable def Kg50_3 : List El125 → sh50_3.den → Option (sh50_3.den ⊕ denX w50_3) := foldR (S50_3)
noncomputable def K50 : (SV.denL ps50) → Option (rs50).den := F50 K57 K95 KD125 Kg50_3
theorem okK50 : CallOK Tryz.prog 50 (mkCall ps50 rs50 K50) := call50 okKI125 okK57 okK95 rfl
noncomputable def K17 : (SV.denL ps17) → Option (rs17).den := F17 K47 K48 K49 K50
theorem okK17 : CallOK Tryz.prog 17 (mkCall ps17 rs17 K17) := call17 okK47 okK48 okK49 okK50
noncomputable def K19 : (SV.denL ps19) → Option (rs19).den := F19 K42 K55 K56 K57 K58
theorem okK19 : CallOK Tryz.prog 19 (mkCall ps19 rs19 K19) := call19 okK42 okK55 okK56 okK57 okK58
noncomputable def K21 : (SV.denL ps21) → Option (rs21).den := F21 K47 K50
theorem okK21 : CallOK Tryz.prog 21 (mkCall ps21 rs21 K21) := call21 okK47 okK50
noncomputable def K23 : (SV.denL ps23) → Option (rs23).den := F23 K47 K48 K50
theorem okK23 : CallOK Tryz.prog 23 (mkCall ps23 rs23 K23) := call23 okK47 okK48 okK50
noncomputable def K200 : (SV.denL ps200) → Option (rs200).den := F200
theorem okK200 : CallOK Tryz.prog 200 (mkCall ps200 rs200 K200) := call200
noncomputable def K199 : (SV.denL ps199) → Option (rs199).den := F199 K200
theorem okK199 : CallOK Tryz.prog 199 (mkCall ps199 rs199 K199) := call199 okK200
noncomputable def Kg64_4 : sh64_4.den → Option (denX w64_4) := iterL (S64_4 K199 K200) 100
noncomputable def K64 : (SV.denL ps64) → Option (rs64).den := F64 Kg64_4
theorem okK64 : CallOK Tryz.prog 64 (mkCall ps64 rs64 K64) := call64 okK199 okK200 (lim_iterL _ _)
abbrev K104 : (SV.denL ps104) → Option (rs104).den := F104
theorem okK104 : CallOK Tryz.prog 104 (mkCall ps104 rs104 K104) := call104
abbrev K105 : (SV.denL ps105) → Option (rs105).den := F105
theorem okK105 : CallOK Tryz.prog 105 (mkCall ps105 rs105 K105) := call105
noncomputable def K103 : (SV.denL ps103) → Option (rs103).den := F103 K104 K105
theorem okK103 : CallOK Tryz.prog 103 (mkCall ps103 rs103 K103) := call103 okK104 okK105
noncomputable def Kg102_3 : sh102_3.den → Option (denX w102_3) := iterL (S102_3 K103) 100
noncomputable def K102 : (SV.denL ps102) → Option (rs102).den := F102 Kg102_3
theorem okK102 : CallOK Tryz.prog 102 (mkCall ps102 rs102 K102) := call102 okK103 (lim_iterL _ _)
noncomputable def Kg106_1 : sh106_1.den → Option (denX w106_1) := iterL (S106_1) 100
noncomputable def K106 : (psh106.den) → Option (rs106).den := F106 Kg106_1
theorem okK106 : CallOK Tryz.prog 106 (mkCallB psh106 rs106 m106 1 K106) := call106 (lim_iterL _ _)
noncomputable def Kg136_1 : sh136_1.den → Option (denX w136_1) := iterL (S136_1) 100
noncomputable def K136 : (SV.denL ps136) → Option (rs136).den := F136 Kg136_1
theorem okK136 : CallOK Tryz.prog 136 (mkCall ps136 rs136 K136) := call136 (lim_iterL _ _)
noncomputable def K107 : (SV.denL ps107) → Option (rs107).den := F107 K136
theorem okK107 : CallOK Tryz.prog 107 (mkCall ps107 rs107 K107) := call107 okK136
abbrev K108 : (SV.denL ps108) → Option (rs108).den := F108
theorem okK108 : CallOK Tryz.prog 108 (mkCall ps108 rs108 K108) := call108
noncomputable def K66 : (SV.denL ps66) → Option (rs66).den := F66 K102 K106 K107 K108
theorem okK66 : CallOK Tryz.prog 66 (mkCall ps66 rs66 K66) := call66 okK102 okK106 okK107 okK108
noncomputable def K63 : (SV.denL ps63) → Option (rs63).den := F63 K100
theorem okK63 : CallOK Tryz.prog 63 (mkCall ps63 rs63 K63) := call63 okK100
noncomputable def Kg65_4 : sh65_4.den → Option (denX w65_4) := iterL (S65_4) 100
noncomputable def K65 : (SV.denL ps65) → Option (rs65).den := F65 K101 Kg65_4
theorem okK65 : CallOK Tryz.prog 65 (mkCall ps65 rs65 K65) := call65 okK101 (lim_iterL _ _)
noncomputable def Kg25_5 : sh25_5.den → Option (denX w25_5) := iterL (S25_5 K63) 100
noncomputable def Kg25_15 : sh25_15.den → Option (denX w25_15) := iterL (S25_15 K65) 100
noncomputable def K25 : (SV.denL ps25) → Option (rs25).den := F25 K64 K66 Kg25_5 Kg25_15
theorem okK25 : CallOK Tryz.prog 25 (mkCall ps25 rs25 K25) := call25 okK63 okK64 okK65 okK66 (lim_iterL _ _) (lim_iterL _ _)
noncomputable def K141 : (SV.denL ps141) → Option (rs141).den := F141
theorem okK141 : CallOK Tryz.prog 141 (mkCall ps141 rs141 K141) := call141
noncomputable def Kg114_4 : sh114_4.den → Option (denX w114_4) := iterL (S114_4 K141) 100
noncomputable def K114 : (SV.denL ps114) → Option (rs114).den := F114 K101 Kg114_4
theorem okK114 : CallOK Tryz.prog 114 (mkCall ps114 rs114 K114) := call114 okK101 okK141 (lim_iterL _ _)
noncomputable def Kg116_5 : sh116_5.den → Option (denX w116_5) := iterL (S116_5 K141) 100
noncomputable def K116 : (SV.denL ps116) → Option (rs116).den := F116 K101 Kg116_5
theorem okK116 : CallOK Tryz.prog 116 (mkCall ps116 rs116 K116) := call116 okK101 okK141 (lim_iterL _ _)
noncomputable def K74 : (SV.denL ps74) → Option (rs74).den := F74 K94 K114 K115 K116
theorem okK74 : CallOK Tryz.prog 74 (mkCall ps74 rs74 K74) := call74 okK114 okK115 okK116 okK94
noncomputable def K76 : (SV.denL ps76) → Option (rs76).den := F76 K115
theorem okK76 : CallOK Tryz.prog 76 (mkCall ps76 rs76 K76) := call76 okK115
noncomputable def K75 : (SV.denL ps75) → Option (rs75).den := F75 K74 K76
theorem okK75 : CallOK Tryz.prog 75 (mkCall ps75 rs75 K75) := call75 okK74 okK76
noncomputable def Kg77_3 : List El125 → sh77_3.den → Option (sh77_3.den ⊕ denX w77_3) := foldR (S77_3 K65 K114)
noncomputable def K77 : (SV.denL ps77) → Option (rs77).den := F77 K95 K115 KD125 Kg77_3
theorem okK77 : CallOK Tryz.prog 77 (mkCall ps77 rs77 K77) := call77 okKI125 okK114 okK115 okK65 okK95 rfl
noncomputable def K73 : (SV.denL ps73) → Option (rs73).den := F73 K41 K55 K66 K74 K75 K77 K81
theorem okK73 : CallOK Tryz.prog 73 (mkCall ps73 rs73 K73) := call73 okK41 okK55 okK66 okK74 okK75 okK77 okK81
noncomputable def K31 : (SV.denL ps31) → Option (rs31).den := F31 K73
theorem okK31 : CallOK Tryz.prog 31 (mkCall ps31 rs31 K31) := call31 okK73
noncomputable def Kg117_8 : sh117_8.den → Option (denX w117_8) := iterL (S117_8 K65 K94) 100
noncomputable def Kg117_4 : List El125 → sh117_4.den → Option (sh117_4.den ⊕ denX w117_4) := foldR (S117_4 K65 K101 K116 Kg117_8)
noncomputable def K117 : (SV.denL ps117) → Option (rs117).den := F117 K95 K101 KD125 Kg117_4
theorem okK117 : CallOK Tryz.prog 117 (mkCall ps117 rs117 K117) := call117 okKI125 okK101 okK116 okK65 okK94 okK95 (lim_iterL _ _) rfl
noncomputable def K79 : (SV.denL ps79) → Option (rs79).den := F79 K115 K117
theorem okK79 : CallOK Tryz.prog 79 (mkCall ps79 rs79 K79) := call79 okK115 okK117
noncomputable def K80 : (SV.denL ps80) → Option (rs80).den := F80 K74 K79 K81
theorem okK80 : CallOK Tryz.prog 80 (mkCall ps80 rs80 K80) := call80 okK74 okK79 okK81
noncomputable def K78 : (SV.denL ps78) → Option (rs78).den := F78 K41 K55 K56 K66 K79 K80 K81
theorem okK78 : CallOK Tryz.prog 78 (mkCall ps78 rs78 K78) := call78 okK41 okK55 okK56 okK66 okK79 okK80 okK81
noncomputable def K33 : (SV.denL ps33) → Option (rs33).den := F33 K78
theorem okK33 : CallOK Tryz.prog 33 (mkCall ps33 rs33 K33) := call33 okK78
noncomputable def K10 : (SV.denL ps10) → Option (rs10).den := F10 K11 K13 K15 K17 K19 K21 K23 K25 K31 K33
theorem okK10 : CallOK Tryz.prog 10 (mkCall ps10 rs10 K10) := call10 okK11 okK13 okK15 okK17 okK19 okK21 okK23 okK25 okK31 okK33
end Go.Proofs.Rf
/- awake() is true. -/
namespace Go.Proofs.Rf
open Go Go.RowKit
theorem K10_val : K10 () = some ((true, ()), ()) := by kernel_rfl
end Go.Proofs.Rf
/- The law of types' names returns true. -/
namespace Go.Proofs.Rf
open Go Go.RowKit D

/-- All are short. -/
def shortB (l : List (List UInt8)) : Bool := l.all fun s => decide (s.length ≤ 600)

theorem L9_spec {l : List (List UInt8)} (hl : l.length < 1000) : L9 (l, ()) = some ((shortB l, ()), ()) := by
  obtain ⟨z, h1, hz⟩ := limL_ind (f := S9_2) (fun x => l.length - x.1.2.2.1.toNat)
    (fun x => ∃ i : Nat, x = ((l, (l.length : Int), (i : Int), ()), ()) ∧ i ≤ l.length ∧ shortB l = shortB (l.drop i))
    (fun z => (z = .inl ((false, ()), ()) ∧ shortB l = false) ∨ (z = .inr ((), ()) ∧ shortB l = true)) (by
    rintro x ⟨i, rfl, hi, he⟩
    rw [S9_2_eq]
    by_cases hlt : i < l.length
    · have hd : l.drop i = l.getD i [] :: l.drop (i + 1) := by
        rw [List.drop_eq_getElem_cons hlt, List.getD_eq_getElem?_getD, List.getElem?_eq_getElem hlt]
        rfl
      rw [hd] at he
      have he : shortB l = (decide ((l.getD i []).length ≤ 600) && shortB (l.drop (i + 1))) := he
      rw [if_pos (decide_eq_true (by omega)), if_pos (by omega), if_pos (by omega), Int.toNat_natCast]
      by_cases h0 : (l.getD i []).length ≤ 600
      · left
        have e6 : IntKind.i64.wrap ((i : Int) + 1) = ((i + 1 : Nat) : Int) := by rw [wi (by omega) (by omega)]; omega
        rw [if_neg (show ¬ decide (((l.getD i []).length : Int) > 600) = true by rw [decide_eq_true_eq]; omega), e6]
        rw [decide_eq_true h0, Bool.true_and] at he
        exact ⟨_, rfl, ⟨i + 1, rfl, by omega, he⟩, by simp only [Int.toNat_natCast]; omega⟩
      · right
        rw [if_pos (show decide (((l.getD i []).length : Int) > 600) = true by rw [decide_eq_true_eq]; omega)]
        rw [decide_eq_false h0, Bool.false_and] at he
        exact ⟨_, rfl, .inl ⟨rfl, he⟩⟩
    · right
      refine ⟨_, if_neg (by rw [decide_eq_true_eq]; omega), .inr ⟨rfl, ?_⟩⟩
      rw [he, List.drop_of_length_le (by omega)]
      rfl) ((l, (l.length : Int), ((0 : Nat) : Int), ()), ()) ⟨0, rfl, by omega, by rw [List.drop_zero]⟩
  show F9 Lg9_2 (l, ()) = _
  have h1 : Lg9_2 ((l, (l.length : Int), 0, ()), ()) = _ := h1
  rw [F9_eq, h1]
  rcases hz with ⟨rfl, h⟩ | ⟨rfl, h⟩
  · rw [h]; rfl
  · rw [h]; rfl

end Go.Proofs.Rf
/- The program's exact integers: trimmed, read from the end, compared. -/
namespace Go.Proofs.Rf
open Go Go.RowKit M

theorem L101_spec {l : List Int} (hw : Wf l) (hl : l.length < 4611686018427387904) : L101 (l, ()) = some ((lim (val l).toNat, ()), ()) := by
  obtain ⟨n, h1, h2, h3, h4⟩ := trim_ind (f := S101_1) (fun n => ((l.take n, ()), ())) (fun n => ((l.take n, ()), ())) l
    (by rw [S101_1_eq]; rfl) (by
      intro n hn
      have hn : n < l.length := hn
      have hlen : (l.take (n + 1)).length = n + 1 := by rw [List.length_take]; omega
      have e : IntKind.i64.wrap ((((l.take (n + 1)).length : Nat) : Int) - 1) = (n : Int) := by rw [hlen]; exact (wi (n := ((n + 1 : Nat) : Int) - 1) (by omega) (by omega)).trans (by omega)
      have hg : (l.take (n + 1)).getD n 0 = l.getD n 0 := by
        rw [List.getD_eq_getElem?_getD, List.getD_eq_getElem?_getD, List.getElem?_take_of_lt (by omega)]
      have ht : List.take n (l.take (n + 1)) = l.take n := by rw [List.take_take, Nat.min_eq_left (by omega)]
      rw [S101_1_eq, e, hlen, if_pos (decide_eq_true (by omega)), if_pos (by omega), if_pos (by omega), Int.toNat_natCast, hg]
      by_cases hx : (l.getD n 0 == 0) = true
      · rw [if_pos hx, if_pos hx, if_pos (by omega), if_pos (by omega), ht]
      · rw [if_neg hx, if_neg hx])
  show F101 Lg101_1 (l, ()) = _
  have h1 : Lg101_1 ((l, ()), ()) = some ((l.take n, ()), ()) := by
    rw [List.take_of_length_le (Nat.le_refl l.length)] at h1
    exact h1
  rw [F101_eq, h1, take_lim hw h2 h3 h4]
  rfl

end Go.Proofs.Rf
/- The program's exact integers: compared, parsed. -/
namespace Go.Proofs.Rf
open Go Go.RowKit M
end Go.Proofs.Rf
/- The program's exact integers: parsed. -/
namespace Go.Proofs.Rf
open Go Go.RowKit M
end Go.Proofs.Rf
/- The program's sums and differences. -/
namespace Go.Proofs.Rf
open Go Go.RowKit M
end Go.Proofs.Rf
/- The program's products. -/
namespace Go.Proofs.Rf
open Go Go.RowKit M

/-- What a list times a factor has come to. -/
structure ScOK (l : List Int) (f c : Int) (i : Nat) (r : Int) (w : List Int) : Prop where
  len : w.length = l.length
  wf : Wf w
  r0 : 0 ≤ r
  r1 : r < 1000000000
  vl : val (w.take i) + 1000000000 ^ i * r = val (l.take i) * f + c

theorem sc_rest {r a f : Int} (r0 : 0 ≤ r) (r1 : r < 1000000000) (a0 : 0 ≤ a) (a1 : a < 1000000000) (f0 : 0 ≤ f) (f1 : f < 1000000000) :
    0 ≤ a * f ∧ a * f ≤ 999999998000000001 ∧ 0 ≤ (r + a * f) / 1000000000 ∧ (r + a * f) / 1000000000 < 1000000000 := by
  have h1 := Int.mul_le_mul (show a ≤ 999999999 by omega) (show f ≤ 999999999 by omega) f0 (by decide)
  have h2 := Int.mul_nonneg a0 f0
  have h3 : (999999999 : Int) * 999999999 = 999999998000000001 := by decide
  rw [h3] at h1
  omega

theorem ScOK.step {l w : List Int} {f c r : Int} {i : Nat} (h : ScOK l f c i r w) (wl : Wf l) (f0 : 0 ≤ f) (f1 : f < 1000000000) (hi : i < l.length) :
    ScOK l f c (i + 1) ((r + l.getD i 0 * f) / 1000000000) (w.set i ((r + l.getD i 0 * f) % 1000000000)) := by
  have xa := wl.getD i
  obtain ⟨b1, b2, b3, b4⟩ := sc_rest h.r0 h.r1 xa.1 xa.2 f0 f1
  have z0 := Int.emod_nonneg (r + l.getD i 0 * f) (show (1000000000 : Int) ≠ 0 by decide)
  have z1 := Int.emod_lt_of_pos (r + l.getD i 0 * f) (show (0 : Int) < 1000000000 by decide)
  refine ⟨by rw [List.length_set]; exact h.len, h.wf.set i z0 z1, b3, b4, ?_⟩
  have hv := h.vl
  have hl := h.len
  rw [val_take_succ, val_take_succ, take_set_at (Nat.le_refl _), getD_set, if_pos ⟨rfl, by omega⟩, powB]
  have h4 : (r + l.getD i 0 * f) % 1000000000 + 1000000000 * ((r + l.getD i 0 * f) / 1000000000) = r + l.getD i 0 * f := Int.emod_add_mul_ediv ..
  generalize (r + l.getD i 0 * f) % 1000000000 = p at *
  generalize (r + l.getD i 0 * f) / 1000000000 = q at *
  grind

theorem S65_step {l w : List Int} {f c r : Int} {i : Nat} (h : ScOK l f c i r w) (wl : Wf l) (f0 : 0 ≤ f) (f1 : f < 1000000000) (hi : i < l.length) (hl : l.length < 1000000000) :
    S65_4 ((f, (), r, l, (l.length : Int), (i : Int), ()), (w, ())) = some (.inl ((f, (), (r + l.getD i 0 * f) / 1000000000, l, (l.length : Int), ((i + 1 : Nat) : Int), ()), (w.set i ((r + l.getD i 0 * f) % 1000000000), ()))) := by
  have xa := wl.getD i
  obtain ⟨b1, b2, b3, b4⟩ := sc_rest h.r0 h.r1 xa.1 xa.2 f0 f1
  have hr0 := h.r0
  have hr1 := h.r1
  have hwl := h.len
  rw [S65_4_eq, if_pos (decide_eq_true (by omega)), if_pos (by omega), if_pos (by omega), if_pos (by omega), if_pos (by omega), Int.toNat_natCast]
  rw [w64 (n := l.getD i 0) (by omega) (by omega), w64 (n := f) (by omega) (by omega), w64 (n := l.getD i 0 * f) (by omega) (by omega), w64 (n := r + l.getD i 0 * f) (by omega) (by omega), tdivB (by omega), tmodB (by omega), w64 (by omega) (by omega), w32 (by omega) (by omega), wi (n := (i : Int) + 1) (by omega) (by omega)]
  rfl

theorem L65_spec {l : List Int} {f c : Int} (wl : Wf l) (hl : l.length < 1000000000) (f0 : 0 ≤ f) (f1 : f < 1000000000) (c0 : 0 ≤ c) (c1 : c < 1000000000) :
    L65 (l, f, c, ()) = some ((lim (val l * f + c).toNat, ()), ()) := by
  obtain ⟨z, h1, r, w, rfl, hok⟩ := limL_ind (f := S65_4) (fun x => l.length - x.1.2.2.2.2.2.1.toNat)
    (fun x => ∃ (i : Nat) (r : Int) (w : List Int), x = ((f, (), r, l, (l.length : Int), (i : Int), ()), (w, ())) ∧ i ≤ l.length ∧ ScOK l f c i r w)
    (fun z => ∃ (r : Int) (w : List Int), z = (((), r, ()), (w, ())) ∧ ScOK l f c l.length r w) (by
    rintro x ⟨i, r, w, rfl, hi, hok⟩
    by_cases hd : i < l.length
    · left
      exact ⟨_, S65_step hok wl f0 f1 hd hl, ⟨i + 1, _, _, rfl, by omega, hok.step wl f0 f1 hd⟩, by simp only [Int.toNat_natCast]; omega⟩
    · right
      obtain rfl : i = l.length := by omega
      exact ⟨_, by rw [S65_4_eq, if_neg (by simp)], r, w, rfl, hok⟩) ((f, (), c, l, (l.length : Int), ((0 : Nat) : Int), ()), (List.replicate l.length 0, ())) ⟨0, c, _, rfl, by omega, by simp, Wf.replicate _, c0, c1, by simp [val]⟩
  have h1 : Lg65_4 ((f, (), c, l, (l.length : Int), 0, ()), List.replicate l.length 0, ()) = _ := h1
  show F65 L101 Lg65_4 (l, f, c, ()) = _
  have hr0 := hok.r0
  have hr1 := hok.r1
  have hlen := hok.len
  have hv := hok.vl
  rw [val_take_all (by omega), val_take_all (by omega)] at hv
  rw [F65_eq, wi (n := (l.length : Int) + 1) (by omega) (by omega), if_pos (by omega), if_pos (by omega), w64 (n := c) (by omega) (by omega), Int.toNat_natCast, h1]
  simp only [Option.bind_some]
  rw [if_pos (by simp; omega), w32 (n := r) (by omega) (by omega), L101_spec (hok.wf.append (Wf.cons hr0 hr1 Wf.nil)) (by simp; omega), val_append, hlen]
  simp only [Option.bind_some, val, Int.mul_zero, Int.add_zero]
  rw [hv]

end Go.Proofs.Rf
/- FromInt, Wrap, Saturate in both texts. -/
namespace Go.Proofs.Rf
open Go Go.RowKit
theorem szM {z : Int} {k : Nat} (h : D.Sz k z) : M.Sz k z := by
  unfold D.Sz at h
  unfold M.Sz
  have h1 := D.lim_lt z.natAbs
  have h2 := Nat.pow_le_pow_right (n := 10) (by decide) h
  have h3 := Nat.pow_le_pow_left (show 10 ≤ 1000000000 by decide) k
  exact M.lim_length_of (by omega)

end Go.Proofs.Rf
/- FromInt, Wrap, Saturate of the reference. -/
namespace Go.Proofs.Rf
open Go Go.RowKit D
end Go.Proofs.Rf
/- ToInt in both texts; the laws of bits. -/
namespace Go.Proofs.Rf
open Go Go.RowKit D
end Go.Proofs.Rf
/- ToInt of the reference; the law of bits returns true. -/
namespace Go.Proofs.Rf
open Go Go.RowKit D
end Go.Proofs.Rf
/- The law of inverses returns true. -/
namespace Go.Proofs.Rf
open Go Go.RowKit D
end Go.Proofs.Rf
/- Rf, part H: from a law's contract to what a given statement asks of its walk. -/
namespace Go.Proofs.Rf
open Go Go.RowKit

def iNone : Nat → Option Value := fun _ => none
def cDead : Nat → Blk := fun _ => .dead

theorem owned_none {ι : Nat → Option Value} {b : Nat} : ¬ owned ι cDead b := by
  rintro ⟨k, hk⟩
  rw [bk_dead rfl] at hk
  cases hk

/-- A world of which nothing is the call's own. -/
theorem HRel.start (w : World) (hg : GlOK w (fun b => b < w.heap.size)) : HRel (fun _ => False) (fun b => b < w.heap.size) w iNone cDead w :=
  ⟨fun k => trivial, fun k k' b h1 _ => (by rw [bk_dead rfl] at h1; cases h1), Kept.refl _ _, fun b hb => (owned_none hb).elim, fun b hb => hb, fun b hb => (owned_none hb).elim, fun b hb => hb.elim, hg.mono fun g q => ⟨⟨q, owned_none, fun q => q⟩, rfl⟩⟩

/-- A law that is handed data and returns true. -/
theorem law_walk {P : Program} {f : Nat} {ps : List SV} {F : SV.denL ps → Option (Shape.den ⟨[(0, .d false .bool)], []⟩)} (h : CallOK P f (mkCall ps ⟨[(0, .d false .bool)], []⟩ F)) (w : World) {args : List AV} {vs : List Value} {x : SV.denL ps} {fz : List (Nat × Blk)}
    (ht : SV.takeL cDead [] ps args = some (x, fz)) (hF : F x = some ((true, ()), ())) (hrel : RelL w (fun b => b < w.heap.size) iNone args vs) (hg : GlOK w (fun b => b < w.heap.size)) : Calls P f vs.toArray w fun e w' => e = .returned (.bool true) ∧ Below w.heap.size w w' := by
  have hok : okb (fun _ => False) w iNone cDead = fun b => b < w.heap.size := by
    funext b
    exact propext ⟨fun q => q.1, fun q => ⟨q, owned_none, fun q => q⟩⟩
  have hco : mkCall ps ⟨[(0, .d false .bool)], []⟩ F args cDead 0 Eff some = some ⟨.d .bool true, [], []⟩ := by
    unfold mkCall
    rw [ht]
    simp only [hF]
    rfl
  refine (h.run _ _ w w iNone cDead 0 args vs _ (HRel.start w hg) (by rw [hok]; exact hrel) hco (fun _ _ _ => rfl)).mono ?_
  rintro e w' ⟨v, rfl, ι', H, E, hv, _⟩
  have hv := rel_bool.1 hv
  exact ⟨by rw [hv], H.fr.os, H.fr.tape, H.fr.output, H.fr.size, fun i hi => H.fr.block i hi hi⟩
end Go.Proofs.Rf
/- Rf, part I: what a given statement hands to a law: data of the law's types, read off the world; and how it reads behind the call. -/
namespace Go.Proofs.Rf
open Go Go.RowKit Go.ChangeShapes Go.WideShapes

/-- A kind of numbers holds a number. -/
def fitK (k : IntKind) (n : Int) : Prop := k.min ≤ n ∧ n ≤ k.max

/-- Numbers fit their kinds; what is long is not too long. -/
def Ty.fit : (t : Ty) → t.den → Prop
  | .int k, n => fitK k n
  | .str, s => s.length ≤ maxLen
  | .sl t, xs => xs.length ≤ maxLen ∧ ∀ x ∈ xs, t.fit x
  | .pr a b, x => a.fit x.1 ∧ b.fit x.2
  | _, _ => True

def tyFs (g : Nat → Option Ty) (c : Nat → Nat) : Nat → List Field → Option (List Ty)
  | _, [] => some []
  | o, f :: r => match g f.type with
    | some ty => if (Nat.beq f.offset o && Nat.beq (c f.type) ty.size) = true then (match tyFs g c (o + ty.size) r with
      | some ts => some (ty :: ts)
      | none => none) else none
    | none => none

/-- The shape of data of a type, where its parts lie one behind the other. -/
def goodTy (P : Program) : Nat → Nat → Option Ty
  | 0, _ => none
  | k + 1, t => match P.underlying t with
    | some (.int i) => some (.int i)
    | some .bool => some .bool
    | some .string => some .str
    | some (.slice e) => (match goodTy P k e with
      | some ty => if (Nat.blt 0 ty.size && Nat.beq (P.cellsOf e) ty.size) = true then some (.sl ty) else none
      | none => none)
    | some (.struct fields) => (match tyFs (goodTy P k) P.cellsOf 0 fields.toList with
      | some ts => if Nat.beq (P.cellsOf t) (prL ts).size = true then some (prL ts) else none
      | none => none)
    | _ => none

section
variable {H : Type} {enc : TypeId × Value → H} {P : Program} {w : World} {sp : Nat → Bool} {held : Bool}

theorem cells_get {a : Addr} {n : Nat} {cs : List Value} (h : w.cells? 0 a n = some cs) : cs.length = n ∧ ∀ j u, cs[j]? = some u → w.cell? (a.add j) = some u := by
  unfold World.cells? at h
  rw [if_pos (Nat.zero_le _)] at h
  have hl := mapM_some_length h
  rw [List.length_range] at hl
  refine ⟨hl, fun j u hu => ?_⟩
  have hj : j < n := by
    rw [← hl]
    exact (List.getElem?_eq_some_iff.1 hu).1
  have := mapM_some_get h j j (by simp [hj])
  rw [hu] at this
  exact this

theorem add_plain (g o j : Nat) : Addr.add ⟨g, o, none⟩ j = ⟨g, o + j, none⟩ := by
  unfold Addr.add
  split
  · rename_i h
    rw [h]; rfl
  · rfl

theorem add_two (a : Addr) {m r j : Nat} (h : m + r = j) : (a.add m).add r = a.add j := by
  subst h
  unfold Addr.add
  by_cases h1 : m = 0
  · subst h1
    simp
  · by_cases h2 : r = 0
    · subst h2
      simp [h1]
    · rw [if_neg h1, if_neg h2, if_neg (by omega), Nat.add_assoc]

theorem cell_place {a : Addr} {u : Value} (h : w.cell? a = some u) : a.spot = none ∧ a.block < w.heap.size := by
  refine ⟨World.cell?_spot h, ?_⟩
  unfold World.cell? at h
  split at h
  · rename_i h1
    exact (Array.getElem?_eq_some_iff.1 h1).1
  · cases h

/-- A row of equal parts. -/
theorem rowL {α : Type} {D : α → List Value → Prop} {Q : α → Prop} {n : Nat} (at_ : Nat → Option (List Value)) : ∀ (len k : Nat), (∀ i, i < len → ∃ cs x, at_ (k + i) = some cs ∧ cs.length = n ∧ D x cs ∧ Q x) →
    ∃ (xs : List α) (cs : List Value), xs.length = len ∧ RzL D xs cs ∧ cs.length = len * n ∧ (∀ x ∈ xs, Q x) ∧ ∀ i j c, i < len → at_ (k + i) = some c → j < n → cs[i * n + j]? = c[j]?
  | 0, k, _ => ⟨[], [], rfl, rfl, by simp, by simp, fun i j c hi => by omega⟩
  | len + 1, k, h => by
    obtain ⟨c0, x0, h0, hl0, hd0, hq0⟩ := h 0 (by omega)
    obtain ⟨xs, cs, hxl, hr, hcl, hq, hg⟩ := rowL at_ len (k + 1) (fun i hi => by
      obtain ⟨c, x, h1, h2⟩ := h (i + 1) (by omega)
      exact ⟨c, x, by rw [show k + 1 + i = k + (i + 1) by omega]; exact h1, h2⟩)
    refine ⟨x0 :: xs, c0 ++ cs, by simp [hxl], ⟨c0, cs, rfl, hd0, hr⟩, by rw [List.length_append, hl0, hcl, Nat.add_mul]; omega, ?_, ?_⟩
    · intro x hx
      rcases List.mem_cons.1 hx with rfl | hx
      · exact hq0
      · exact hq x hx
    · intro i j c hi hc hj
      cases i with
      | zero =>
        rw [Nat.add_zero] at h0 hc
        rw [h0] at hc
        cases hc
        rw [Nat.zero_mul, Nat.zero_add, List.getElem?_append_left (by omega)]
      | succ i =>
        rw [List.getElem?_append_right (by rw [hl0, Nat.add_mul]; omega), show (i + 1) * n + j - c0.length = i * n + j by rw [hl0, Nat.add_mul]; omega]
        exact hg i j c (by omega) (by rw [show k + 1 + i = k + (i + 1) by omega]; exact hc) hj

/-- The parts of a struct. -/
theorem fields_open {g : Nat → Option Ty} {c : Nat → Nat} {cs : List Value} {D : Nat → List Value → Prop} (ho : ∀ t ty us, g t = some ty → D t us → ∃ x : ty.den, Rz w (fun b => b < w.heap.size) ty x us ∧ ty.fit x) :
    ∀ (fs : List Field) (ts : List Ty) (o : Nat), tyFs g c o fs = some ts → (∀ f ∈ fs, D f.type ((cs.drop f.offset).take (c f.type))) → (cs.drop o).length = (prL ts).size →
      ∃ x : (prL ts).den, Rz w (fun b => b < w.heap.size) (prL ts) x (cs.drop o) ∧ (prL ts).fit x
  | [], ts, o, ht, _, hl => by
    cases ht
    exact ⟨(), List.eq_nil_of_length_eq_zero hl, trivial⟩
  | f :: r, ts, o, ht, hD, hl => by
    unfold tyFs at ht
    split at ht
    · rename_i ty hty
      split at ht
      · rename_i hc
        split at ht
        · rename_i ts' hts
          cases ht
          simp only [Bool.and_eq_true] at hc
          have ho' := Nat.eq_of_beq_eq_true hc.1
          have hs := Nat.eq_of_beq_eq_true hc.2
          have hd := hD f (by simp)
          rw [ho', hs] at hd
          obtain ⟨x, hx, hf⟩ := ho _ _ _ hty hd
          cases ts' with
          | nil =>
            have hl : _ = ty.size := hl
            rw [List.take_of_length_le (by omega)] at hx
            exact ⟨x, hx, hf⟩
          | cons b r' =>
            have hl : _ = ty.size + (prL (b :: r')).size := hl
            obtain ⟨y, hy, hg⟩ := fields_open ho r (b :: r') (o + ty.size) hts (fun f hf => hD f (by simp [hf])) (by rw [← List.drop_drop, List.length_drop]; omega)
            exact ⟨(x, y), ⟨_, _, by rw [← List.drop_drop, List.take_append_drop], hx, hy⟩, hf, hg⟩
        · cases ht
      · cases ht
    · cases ht

/-- Data of a type, read off its cells. -/
theorem open_cells : ∀ (k : Nat) (t : Nat) (ty : Ty), goodTy P k t = some ty → ∀ (fuel : Nat) (cs : List Value) (d : DataW H × List MemPlace), DataW.trod enc P w 0 sp held fuel t cs = some d →
    ∃ x : ty.den, Rz w (fun b => b < w.heap.size) ty x cs ∧ ty.fit x
  | 0, t, ty, hty, _, _, _, _ => by cases hty
  | k + 1, t, ty, hty, fuel, cs, d, h => by
    unfold goodTy at hty
    split at hty
    · rename_i i hu
      cases hty
      obtain ⟨n, rfl, _, hw⟩ := DataW.trod_int hu h
      simp only [Lit.wf, Bool.and_eq_true, decide_eq_true_eq] at hw
      exact ⟨n, rfl, hw⟩
    · rename_i hu
      cases hty
      obtain ⟨b, rfl, _⟩ := DataW.trod_bool hu h
      exact ⟨b, rfl, trivial⟩
    · rename_i hu
      cases hty
      obtain ⟨s, rfl, _, hs⟩ := DataW.trod_string hu h
      refine ⟨s.data.toList, ?_, ?_⟩
      · show _ = _
        cases s
        rfl
      · show _ ≤ _
        rw [Array.length_toList]
        exact hs
    · rename_i e hu
      split at hty
      · rename_i te hte
        split at hty
        · rename_i hc
          cases hty
          simp only [Bool.and_eq_true] at hc
          have hpos : 0 < te.size := Nat.le_of_ble_eq_true hc.1
          have hsz := Nat.eq_of_beq_eq_true hc.2
          rcases DataW.trod_slice hu h with ⟨rfl, _⟩ | ⟨a, len, cap, elems, rest, n, _, rfl, _, _, hlc, hcm, hel, hget, _, _⟩
          · exact ⟨[], ⟨none, 0, rfl, Nat.le_refl _, fun hp => by simp at hp⟩, by simp [Ty.fit]⟩
          · have hrow : ∀ i, i < len → ∃ cs x, (fun i => w.cells? 0 (a.add (i * te.size)) te.size) (0 + i) = some cs ∧ cs.length = te.size ∧ Rz w (fun b => b < w.heap.size) te x cs ∧ te.fit x := by
              intro i hi
              have hg := hget i hi
              rw [hsz, List.getElem?_eq_getElem (by omega)] at hg
              obtain ⟨c, h1, h2⟩ := Option.bind_eq_some_iff.1 hg
              obtain ⟨x, hx, hf⟩ := open_cells k e te hte n c _ h2
              exact ⟨c, x, by rw [Nat.zero_add]; exact h1, (cells_get h1).1, hx, hf⟩
            obtain ⟨xs, cs, hxl, hr, hcl, hq, hg⟩ := rowL (fun i => w.cells? 0 (a.add (i * te.size)) te.size) len 0 hrow
            refine ⟨xs, ⟨some a, cap, by rw [hxl], by rw [hxl]; exact hlc, fun hp => ?_⟩, by rw [hxl]; omega, hq⟩
            rw [hxl] at hp
            have hcell : ∀ j u, cs[j]? = some u → w.cell? (a.add j) = some u := by
              intro j u hu
              have hj : j < len * te.size := by rw [← hcl]; exact (List.getElem?_eq_some_iff.1 hu).1
              have hi : j / te.size < len := Nat.div_lt_of_lt_mul (by rw [Nat.mul_comm]; exact hj)
              obtain ⟨c, _, h1, hl, _⟩ := hrow (j / te.size) hi
              have hjm : j % te.size < te.size := Nat.mod_lt _ hpos
              have e1 : j / te.size * te.size + j % te.size = j := by rw [Nat.mul_comm]; exact Nat.div_add_mod _ _
              have := hg (j / te.size) (j % te.size) c hi h1 hjm
              rw [e1, hu] at this
              rw [Nat.zero_add] at h1
              have h3 := (cells_get h1).2 (j % te.size) u this.symm
              have e2 : (a.add (j / te.size * te.size)).add (j % te.size) = a.add j := add_two a e1
              rw [← e2]
              exact h3
            have h0 : ∃ u, cs[0]? = some u := by
              refine ⟨_, List.getElem?_eq_getElem ?_⟩
              rw [hcl]
              exact Nat.mul_pos hp hpos
            obtain ⟨u, hu⟩ := h0
            have hp := cell_place (hcell 0 u hu)
            obtain ⟨g, o, s⟩ := a
            obtain ⟨hp1, hp2⟩ := hp
            have hs : s = none := hp1
            subst hs
            exact ⟨g, o, cs, rfl, hp2, hr, fun j u hu => by rw [← add_plain]; exact hcell j u hu⟩
        · cases hty
      · cases hty
    · rename_i fields hu
      split at hty
      · rename_i ts hts
        split at hty
        · rename_i hc
          cases hty
          obtain ⟨xs, n, _, _, hlen, _, hf⟩ := DataW.trod_struct hu h
          rw [Nat.eq_of_beq_eq_true hc] at hlen
          have hf : ∀ f ∈ fields.toList, ∃ y, DataW.trod enc P w 0 sp held n f.type ((cs.drop f.offset).take (P.cellsOf f.type)) = some y := by
            intro f hm
            obtain ⟨i, hi, e⟩ := List.getElem_of_mem hm
            have hi' : i < fields.size := by simpa using hi
            have e' : fields[i]? = some f := by rw [Array.getElem?_eq_getElem hi']; simp only [← e, Array.getElem_toList]
            have := hf i f e'
            rw [this]
            exact ⟨xs[i]'(by omega), List.getElem?_eq_getElem _⟩
          have := fields_open (cs := cs) (D := fun t us => ∃ y, DataW.trod enc P w 0 sp held n t us = some y) (fun t ty us h1 ⟨y, h2⟩ => open_cells k t ty h1 n us y h2) fields.toList ts 0 hts hf (by rw [List.drop_zero]; exact hlen)
          rw [List.drop_zero] at this
          exact this
        · cases hty
      · cases hty
    · cases hty

/-! ### Arguments -/
def aggB (P : Program) (t : Nat) : Bool := match P.underlying t with
  | some (.struct _) => true
  | _ => false

theorem eqv_self : ∀ (t : Ty), t.eqv t = some ⟨rfl⟩
  | .int k => by
    have : ikEq k k = true := by cases k <;> rfl
    simp [Ty.eqv, this]
  | .bool => rfl
  | .str => rfl
  | .sl t => by
    unfold Ty.eqv
    rw [eqv_self t]
  | .pr a b => by
    unfold Ty.eqv
    rw [eqv_self a, eqv_self b]
  | .un => rfl
  | .ic => rfl
  | .fv => rfl
  | .fk f => by simp [Ty.eqv]
  | .tr a b => by
    unfold Ty.eqv
    rw [eqv_self a, eqv_self b]

theorem pack_unpack (C : Nat → Blk) : ∀ (t : Ty) (x : t.den) (r : List AV), pack C t (unpack t x ++ r) = some (x, r, [])
  | .int k, x, r => by
    have : dat1 C (.int k) (.d (.int k) x) = some (x, []) := by
      show (if ikEq k k = true then some (x, []) else none) = _
      rw [if_pos (by cases k <;> rfl)]
    show (match dat1 C (.int k) (.d (.int k) x) with | some (x, f) => some (x, r, f) | none => none) = _
    rw [this]
  | .bool, x, r => rfl
  | .str, x, r => rfl
  | .sl t, x, r => by
    have : dat1 C (.sl t) (.d (.sl t) x) = some (x, []) := by
      simp only [dat1, eqv_self]
      rfl
    show (match dat1 C (.sl t) (.d (.sl t) x) with | some (x, f) => some (x, r, f) | none => none) = _
    rw [this]
  | .pr a b, x, r => by
    show pack C (.pr a b) ((unpack a x.1 ++ unpack b x.2) ++ r) = _
    rw [List.append_assoc]
    unfold pack
    rw [pack_unpack C a x.1]
    simp only
    rw [pack_unpack C b x.2]
    rfl
  | .un, x, r => rfl
  | .ic, x, r => rfl
  | .fv, x, r => rfl
  | .fk f, x, r => by
    have : dat1 C (.fk f) (.fn f []) = some ((), []) := by
      show (if Nat.beq f f = true then some ((), []) else none) = _
      rw [if_pos (Nat.beq_refl f)]
    show (match dat1 C (.fk f) (.fn f []) with | some (x, f) => some (x, r, f) | none => none) = _
    rw [this]
  | .tr a b, x, r => by
    have : dat1 C (.tr a b) (.d (.tr a b) x) = some (x, []) := by
      simp only [dat1, eqv_self]
      rfl
    show (match dat1 C (.tr a b) (.d (.tr a b) x) with | some (x, f) => some (x, r, f) | none => none) = _
    rw [this]

theorem dat_ag (C : Nat → Blk) (t : Ty) (x : t.den) : dat C t (.ag (unpack t x)) = some (x, []) := by
  have := pack_unpack C t x []
  rw [List.append_nil] at this
  show (match pack C t (unpack t x) with | some (x, [], f) => some (x, f) | _ => none) = _
  rw [this]

theorem take_ag (C : Nat → Blk) (t : Ty) (x : t.den) : SV.take C [] (.d true t) (.ag (unpack t x)) = some (x, []) := dat_ag C t x

theorem take_one (C : Nat → Blk) (t : Ty) (x : t.den) (h : unpack t x = [.d t x]) : SV.take C [] (.d false t) (.d t x) = some (x, []) := by
  have := pack_unpack C t x []
  rw [List.append_nil, h] at this
  show (match pack C t [.d t x] with | some (x, [], f) => some (x, f) | _ => none) = _
  rw [this]

theorem open_arg {r : Reach} {b0 k t : Nat} {ty : Ty} {v : Value} {d : DataW H} {ps : List MemPlace} (hg : goodTy P (k + 1) t = some ty) (hv : Value.okWide P w r b0 t v) (hd : DataW.Trod enc P w 0 sp held t v d ps) :
    ∃ (a : AV) (x : ty.den), RelV w (fun b => b < w.heap.size) iNone a v ∧ SV.take cDead [] (.d (aggB P t) ty) a = some (x, []) ∧ ty.fit x := by
  obtain ⟨fuel, hf⟩ := hd
  obtain ⟨x, hx, hfit⟩ := open_cells (k + 1) t ty hg fuel _ _ hf
  unfold goodTy at hg
  unfold aggB
  split at hg
  · rename_i i hu
    cases hg
    obtain ⟨n, rfl⟩ := okWide_int hu hv
    rw [hu]
    exact ⟨_, x, by simp only [RelV]; exact hx, take_one _ _ x rfl, hfit⟩
  · rename_i hu
    cases hg
    obtain ⟨n, rfl⟩ := okWide_bool hu hv
    rw [hu]
    exact ⟨_, x, by simp only [RelV]; exact hx, take_one _ _ x rfl, hfit⟩
  · rename_i hu
    cases hg
    obtain ⟨n, rfl⟩ := okWide_string hu hv
    rw [hu]
    exact ⟨_, x, by simp only [RelV]; exact hx, take_one _ _ x rfl, hfit⟩
  · rename_i e hu
    split at hg
    · split at hg
      · cases hg
        obtain ⟨a, l, c, rfl⟩ := okWide_slice hu hv
        rw [hu]
        exact ⟨_, x, by simp only [RelV]; exact hx, take_one _ _ x rfl, hfit⟩
      · cases hg
    · cases hg
  · rename_i fs hu
    split at hg
    · split at hg
      · cases hg
        obtain ⟨cs, rfl, _⟩ := okWide_struct hu hv
        rw [hu]
        have hx : Rz _ _ _ x cs.toList := hx
        exact ⟨_, x, by simp only [RelV]; exact ⟨cs.toList, by simp, RelL_unpack _ _ _ hx⟩, take_ag _ _ x, hfit⟩
      · cases hg
    · cases hg
  · cases hg

def argsOf (P : Program) : List Nat → Option (List SV)
  | [] => some []
  | t :: r => match goodTy P 16 t with
    | some ty => match argsOf P r with
      | some s => some (.d (aggB P t) ty :: s)
      | none => none
    | none => none

def fitDL : (l : List SV) → SV.denL l → Prop
  | [], _ => True
  | .d _ t :: r, x => t.fit x.1 ∧ fitDL r x.2
  | _ :: _, _ => False

/-- All arguments, as data. -/
theorem open_args {r : Reach} {b0 : Nat} : ∀ (ts : List TypeId) (vs : List Value) (ds : List (DataW H)) (ps : List MemPlace), DataW.TrodAll enc P w 0 sp held ts vs ds ps →
    (∀ (j : Nat) t v, ts[j]? = some t → vs[j]? = some v → Value.okWide P w r b0 t v) → ∀ (svs : List SV), argsOf P ts = some svs →
    ∃ (avs : List AV) (x : SV.denL svs), RelL w (fun b => b < w.heap.size) iNone avs vs ∧ SV.takeL cDead [] svs avs = some (x, []) ∧ fitDL svs x
  | [], vs, ds, ps, h, _, svs, hs => by
    obtain ⟨rfl, _, _⟩ := trodAll_nil h
    cases hs
    exact ⟨[], (), RelL_nil.2 rfl, rfl, trivial⟩
  | t :: ts, vs, ds, ps, h, hv, svs, hs => by
    obtain ⟨v, vs', d, ds', p, q, rfl, rfl, rfl, hd, hr⟩ := trodAll_cons h
    unfold argsOf at hs
    split at hs
    · rename_i ty hty
      split at hs
      · rename_i s hs'
        cases hs
        obtain ⟨a, x, h1, h2, h3⟩ := open_arg hty (hv 0 t v rfl rfl) hd
        obtain ⟨avs, y, h4, h5, h6⟩ := open_args ts vs' ds' q hr (fun j t' v' h7 h8 => hv (j + 1) t' v' h7 h8) s hs'
        refine ⟨a :: avs, (x, y), RelL_cons.2 ⟨v, vs', rfl, h1, h4⟩, ?_, h3, h6⟩
        unfold SV.takeL
        rw [h2]
        simp only
        rw [h5]
        rfl
      · cases hs
    · cases hs

/-- They read behind the call as ahead of it. -/
theorem shut_args {W W' : World} (hl : laidOutB P = true) (hb : Below W.heap.size W W') : ∀ (ts : List TypeId) (vs : List Value) (ds : List (DataW H)) (ps : List MemPlace), (∀ t ∈ ts, P.readableRec t = true ∧ t < P.types.size) →
    DataW.TrodAll enc P W 0 (fun _ => true) true ts vs ds ps → DataW.TrodAll enc P W' 0 (fun b => decide (b < W.heap.size)) true ts vs ds ps
  | [], vs, ds, ps, _, h => by
    obtain ⟨rfl, rfl, rfl⟩ := trodAll_nil h
    exact trodAll_mk0
  | t :: ts, vs, ds, ps, ht, h => by
    obtain ⟨v, vs', d, ds', p, q, rfl, rfl, rfl, hd, hr⟩ := trodAll_cons h
    have lt : ∀ x ∈ p, x.block < W.heap.size := by
      obtain ⟨m, hm⟩ := hd
      exact DataW.trod_lt m _ _ _ hm
    exact trodAll_cons_mk (Below.trod hl (ht t (by simp)).1 (ht t (by simp)).2 hd hb lt) (shut_args hl hb ts vs' ds' q (fun t' h' => ht t' (by simp [h'])) hr)
end
end Go.Proofs.Rf
/- The laws of bits and of inverses, for well-typed bits. -/
namespace Go.Proofs.Rf
open Go Go.RowKit
end Go.Proofs.Rf
/- The program's quotients and remainders. -/
namespace Go.Proofs.Rf
open Go Go.RowKit M
end Go.Proofs.Rf
/- The program's decimal strings. -/
namespace Go.Proofs.Rf
open Go Go.RowKit M
section
variable {α : Type}
theorem getD_setA {d : α} {r : List α} {i k : Nat} {v : α} : (r.set i v).getD k d = if i = k ∧ i < r.length then v else r.getD k d := by
  rw [List.getD_eq_getElem?_getD, List.getD_eq_getElem?_getD, List.getElem?_set]
  by_cases h : i = k
  · subst h
    by_cases h2 : i < r.length
    · rw [if_pos rfl, if_pos h2, if_pos ⟨rfl, h2⟩]
      rfl
    · rw [if_pos rfl, if_neg h2, if_neg (fun q => h2 q.2), List.getElem?_eq_none (by omega)]
  · rw [if_neg h, if_neg (fun q => h q.1)]

/-! ### Turning round -/
def swp (d : α) (l : List α) (i k : Nat) : List α := (l.set i (l.getD k d)).set k (l.getD i d)

/-- From i on, ahead of e. -/
def rv (d : α) : Nat → Nat → Nat → List α → List α
  | 0, _, _, l => l
  | m + 1, i, e, l => if i + 1 < e then rv d m (i + 1) (e - 1) (swp d l i (e - 1)) else l

theorem swp_length (d : α) (l : List α) (i k : Nat) : (swp d l i k).length = l.length := by simp [swp]

theorem swp_getD {d : α} {l : List α} {i k j : Nat} (hi : i < l.length) (hk : k < l.length) : (swp d l i k).getD j d = if j = k then l.getD i d else if j = i then l.getD k d else l.getD j d := by
  unfold swp
  rw [getD_setA, getD_setA]
  simp only [List.length_set, hi, hk, and_true]
  by_cases h1 : j = k
  · subst h1; simp
  · by_cases h2 : j = i
    · subst h2; simp [h1, Ne.symm h1]
    · simp [h1, h2, Ne.symm h1, Ne.symm h2]

theorem rv_getD (d : α) : ∀ (m i e : Nat) (l : List α), e ≤ l.length → e ≤ i + m → (rv d m i e l).length = l.length ∧ ∀ j, (rv d m i e l).getD j d = if i ≤ j ∧ j < e then l.getD (i + e - 1 - j) d else l.getD j d
  | 0, i, e, l, h1, h2 => by
    refine ⟨rfl, fun j => ?_⟩
    show l.getD j d = _
    rw [if_neg (by omega)]
  | m + 1, i, e, l, h1, h2 => by
    show (if i + 1 < e then rv d m (i + 1) (e - 1) (swp d l i (e - 1)) else l).length = _ ∧ ∀ j, (if i + 1 < e then rv d m (i + 1) (e - 1) (swp d l i (e - 1)) else l).getD j d = _
    by_cases h : i + 1 < e
    · rw [if_pos h]
      obtain ⟨q1, q2⟩ := rv_getD d m (i + 1) (e - 1) (swp d l i (e - 1)) (by rw [swp_length]; omega) (by omega)
      refine ⟨by rw [q1, swp_length], fun j => ?_⟩
      rw [q2]
      by_cases hj : i + 1 ≤ j ∧ j < e - 1
      · rw [if_pos hj, if_pos (by omega), swp_getD (by omega) (by omega), if_neg (by omega), if_neg (by omega), show i + 1 + (e - 1) - 1 - j = i + e - 1 - j by omega]
      · rw [if_neg hj, swp_getD (by omega) (by omega)]
        by_cases ha : j = e - 1
        · subst ha
          rw [if_pos rfl, if_pos (by omega), show i + e - 1 - (e - 1) = i by omega]
        · rw [if_neg ha]
          by_cases hb : j = i
          · subst hb
            rw [if_pos rfl, if_pos (by omega), show j + e - 1 - j = e - 1 by omega]
          · rw [if_neg hb, if_neg (by omega)]
    · rw [if_neg h]
      refine ⟨rfl, fun j => ?_⟩
      by_cases hj : i ≤ j ∧ j < e
      · rw [if_pos hj, show i + e - 1 - j = j by omega]
      · rw [if_neg hj]

theorem getD_ext (d : α) {a b : List α} (h : a.length = b.length) (k : ∀ j, j < a.length → a.getD j d = b.getD j d) : a = b := by
  refine List.ext_getElem h fun i h1 h2 => ?_
  have := k i h1
  rw [List.getD_eq_getElem?_getD, List.getD_eq_getElem?_getD, List.getElem?_eq_getElem h1, List.getElem?_eq_getElem h2] at this
  exact this

theorem rv_reverse (d : α) (l : List α) : rv d l.length 0 l.length l = l.reverse := by
  obtain ⟨h1, h2⟩ := rv_getD d l.length 0 l.length l (Nat.le_refl _) (by omega)
  refine getD_ext d (by rw [h1, List.length_reverse]) fun j hj => ?_
  rw [h1] at hj
  rw [h2, if_pos (by omega), List.getD_eq_getElem?_getD, List.getD_eq_getElem?_getD, List.getElem?_reverse hj]
  congr 3
  omega

/-- Both texts' loops that turn a row round. -/
theorem turn_loop {A B : Type} (d : α) {f : A → Option (A ⊕ B)} {st : Int → Int → List α → A} {fin : List α → B} (hf : ∀ i k r, f (st i k r) = (
    if decide (i < k) = true then
      if 0 ≤ k then
        if k < (r.length : Int) then
          if 0 ≤ i then
            if i < (r.length : Int) then
              if 0 ≤ i then
                if i < (r.length : Int) then
                  if 0 ≤ k then
                    if k < ((r.set i.toNat (r.getD k.toNat d)).length : Int) then
                      some (.inl (st (IntKind.i64.wrap (i + 1)) (IntKind.i64.wrap (k - 1)) ((r.set i.toNat (r.getD k.toNat d)).set k.toNat (r.getD i.toNat d))))
                    else none
                  else none
                else none
              else none
            else none
          else none
        else none
      else none
    else some (.inr (fin r)))) (μ : A → Nat) (hμ : ∀ i k r, μ (st i k r) = (k - i + 1).toNat) (l : List α) (hl : l.length < 1000000000) : limL f (st 0 ((l.length : Int) - 1) l) = some (fin l.reverse) := by
  obtain ⟨z, h1, rfl⟩ := limL_ind (f := f) μ (fun x => ∃ (m i e : Nat) (r : List α), x = st (i : Int) ((e : Int) - 1) r ∧ rv d m i e r = l.reverse ∧ r.length = l.length ∧ e ≤ l.length ∧ e ≤ i + m ∧ i ≤ l.length)
    (fun z => z = fin l.reverse) (by
    rintro x ⟨m, i, e, r, rfl, hrv, hr, he, hm, hi⟩
    have q := hf (i : Int) ((e : Int) - 1) r
    by_cases h : i + 1 < e
    · left
      obtain ⟨m', rfl⟩ : ∃ m', m = m' + 1 := ⟨m - 1, by omega⟩
      have hrv : (if i + 1 < e then rv d m' (i + 1) (e - 1) (swp d r i (e - 1)) else r) = l.reverse := hrv
      rw [if_pos h] at hrv
      have e1 : IntKind.i64.wrap ((i : Int) + 1) = ((i + 1 : Nat) : Int) := by rw [wi (by omega) (by omega)]; omega
      have e2 : IntKind.i64.wrap ((e : Int) - 1 - 1) = ((e - 1 : Nat) : Int) - 1 := by rw [wi (by omega) (by omega)]; omega
      have e3 : ((e : Int) - 1).toNat = e - 1 := by omega
      have p1 : (i : Int) < (e : Int) - 1 := by omega
      have p2 : (0 : Int) ≤ (e : Int) - 1 := by omega
      have p3 : (e : Int) - 1 < (r.length : Int) := by omega
      have p4 : (0 : Int) ≤ (i : Int) := by omega
      have p5 : (i : Int) < (r.length : Int) := by omega
      simp only [decide_eq_true_eq, p1, p2, p3, p4, p5, if_true, e1, e2, e3, Int.toNat_natCast, List.length_set] at q
      refine ⟨_, q, ⟨m', i + 1, e - 1, _, rfl, hrv, by rw [List.length_set, List.length_set]; exact hr, by omega, by omega, by omega⟩, ?_⟩
      rw [hμ, hμ]
      omega
    · right
      have p1 : ¬ (i : Int) < (e : Int) - 1 := by omega
      simp only [decide_eq_true_eq, p1, if_false] at q
      refine ⟨_, q, ?_⟩
      rw [← hrv]
      cases m with
      | zero => rfl
      | succ m =>
        show _ = fin (if i + 1 < e then rv d m (i + 1) (e - 1) (swp d r i (e - 1)) else r)
        rw [if_neg h]) (st 0 ((l.length : Int) - 1) l) ⟨l.length, 0, l.length, l, rfl, rv_reverse d l, rfl, Nat.le_refl _, by omega, by omega⟩
  exact h1

end

theorem L106_spec {r : List (List UInt8)} (hr : r.length < 1000000000) : L106 (((), ()), (r, ())) = some (((), ()), r.reverse, ()) := by
  show F106 Lg106_1 (((), ()), (r, ())) = _
  rw [F106_eq, wi (by omega) (by omega)]
  have := turn_loop (d := ([] : List UInt8)) (f := S106_1) (st := fun i k r => (((), i, k, ()), (r, ()))) (fin := fun r => (((), ()), r, ())) (fun i k r => S106_1_eq i k r) (fun x => (x.1.2.2.1 - x.1.2.1 + 1).toNat) (fun _ _ _ => rfl) r hr
  rw [show Lg106_1 (((), 0, (r.length : Int) - 1, ()), r, ()) = _ from this]
  rfl

/-- A limb's digits, nine of them. -/
def p9 (d : Int) : List UInt8 := List.replicate (9 - (dec d.toNat).length) 48 ++ dec d.toNat

theorem IsD_zeros (n : Nat) : IsD (List.replicate n 48) := fun c hc => by
  rw [(List.mem_replicate.1 hc).2]
  decide

theorem dv_zeros (n : Nat) : dv (List.replicate n 48) = 0 := by
  induction n with
  | zero => rfl
  | succ n ih => rw [List.replicate_succ', dv_snoc, ih]; rfl

theorem dec_le9 {d : Int} (h0 : 0 ≤ d) (h1 : d < 1000000000) : (dec d.toNat).length ≤ 9 := dec_length_le (k := 9) (by omega) (by decide)

theorem p9_all {d : Int} (h0 : 0 ≤ d) (h1 : d < 1000000000) : IsD (p9 d) ∧ (p9 d).length = 9 ∧ (dv (p9 d) : Int) = d := by
  have hl := dec_le9 h0 h1
  refine ⟨(IsD_zeros _).append (dec_IsD _), by unfold p9; simp; omega, ?_⟩
  unfold p9
  rw [dv_append, dv_zeros, dv_dec]
  omega

theorem L103_spec {d : Int} (h0 : 0 ≤ d) (h1 : d < 1000000000) : L103 (d, ()) = some ((p9 d, ()), ()) := by
  have hl := dec_le9 h0 h1
  show F103 F104 F105 (d, ()) = _
  have e : Lib.itoa d = dec d.toNat := by
    obtain ⟨n, rfl⟩ : ∃ n : Nat, d = (n : Int) := ⟨d.toNat, by omega⟩
    exact Lib.itoa_nonneg n
  have h104 : F104 (d, ()) = some ((dec d.toNat, ()), ()) := by
    unfold F104
    rw [if_pos (by unfold i64Ok; rw [decide_eq_true (by omega), decide_eq_true (by omega)]; rfl), e]
  have h105 : F105 ([48], ((9 - (dec d.toNat).length : Nat) : Int), ()) = some ((List.replicate (9 - (dec d.toNat).length) 48, ()), ()) := by
    unfold F105
    rw [if_pos (by
      unfold repOk
      simp only [List.length_cons, List.length_nil, Int.toNat_natCast, Bool.and_eq_true, decide_eq_true_eq, Nat.ble_eq]
      refine ⟨by omega, by omega, by omega⟩)]
    have := Lib.repeatL_replicate 48 1 (9 - (dec d.toNat).length)
    simp only [Int.toNat_natCast]
    rw [show Lib.repeatL [48] (9 - (dec d.toNat).length) = List.replicate (9 - (dec d.toNat).length) 48 by simpa using this]
  rw [F103_eq, wi (n := d) (by omega) (by omega), h104]
  simp only [Option.bind_some]
  rw [wi (n := 9 - ((dec d.toNat).length : Int)) (by omega) (by omega), show 9 - ((dec d.toNat).length : Int) = ((9 - (dec d.toNat).length : Nat) : Int) by omega, h105]
  simp only [Option.bind_some]
  exact if_pos (by simp; omega)

theorem S102_step {l : List Int} (hw : Wf l) (hl : l.length < 1000000000) {w : List (List UInt8)} {i : Nat} (hwl : w.length = l.length) (hi : i < l.length) :
    S102_3 L103 ((l, 104, (), (l.length : Int), (i : Int), ()), (w, ())) = some (.inl ((l, 104, (), (l.length : Int), ((i + 1 : Nat) : Int), ()), (w.set i (p9 (l.getD i 0)), ()))) := by
  have xa := hw.getD i
  rw [S102_3_eq, if_pos (decide_eq_true (by omega)), if_pos (by omega), if_pos (by omega)]
  rw [if_neg (by decide), if_neg (by decide), if_neg (by decide), if_neg (by decide), if_neg (by decide), if_neg (by decide), if_neg (by decide), if_neg (by decide), if_neg (by decide), if_neg (by decide), if_neg (by decide), if_neg (by decide), if_neg (by decide), if_pos (by decide), Int.toNat_natCast, L103_spec xa.1 xa.2]
  simp only [Option.bind_some]
  rw [if_pos (by omega), if_pos (by omega), wi (n := (i : Int) + 1) (by omega) (by omega)]
  rfl

theorem take_set_succ {α : Type} {w : List α} {i : Nat} {v : α} (h : i < w.length) : (w.set i v).take (i + 1) = w.take i ++ [v] := by
  refine List.ext_getElem? fun j => ?_
  rw [List.getElem?_take, List.getElem?_append, List.length_take, Nat.min_eq_left (by omega), List.getElem?_set, List.getElem?_take]
  by_cases h1 : j < i
  · rw [if_pos (by omega), if_neg (by omega), if_pos h1, if_pos h1]
  · rw [if_neg h1]
    by_cases h2 : j = i
    · subst h2
      rw [if_pos (by omega), if_pos rfl, if_pos h, Nat.sub_self]
      rfl
    · rw [if_neg (by omega), List.getElem?_eq_none (by simp; omega)]

theorem L102_spec {l : List Int} (hw : Wf l) (hl : l.length < 1000000000) : L102 (l, 104, ()) = some (((), ()), l.map p9, ()) := by
  obtain ⟨z, h1, rfl⟩ := limL_ind (f := S102_3 L103) (fun x => l.length - x.1.2.2.2.2.1.toNat)
    (fun x => ∃ (i : Nat) (w : List (List UInt8)), x = ((l, 104, (), (l.length : Int), (i : Int), ()), (w, ())) ∧ i ≤ l.length ∧ w.length = l.length ∧ w.take i = (l.take i).map p9)
    (fun z => z = (((), ()), (l.map p9, ()))) (by
    rintro x ⟨i, w, rfl, hi, hwl, ht⟩
    by_cases hd : i < l.length
    · left
      refine ⟨_, S102_step hw hl hwl hd, ⟨i + 1, _, rfl, by omega, by rw [List.length_set]; exact hwl, ?_⟩, by simp only [Int.toNat_natCast]; omega⟩
      rw [take_set_succ (by omega), ht, ← List.take_append_getElem hd, List.map_append, List.getD_eq_getElem?_getD, List.getElem?_eq_getElem hd]
      rfl
    · right
      obtain rfl : i = l.length := by omega
      rw [List.take_of_length_le (by omega), List.take_of_length_le (by omega)] at ht
      exact ⟨_, by rw [S102_3_eq, if_neg (by simp)], by rw [ht]⟩) ((l, 104, (), (l.length : Int), ((0 : Nat) : Int), ()), (List.replicate l.length [], ())) ⟨0, _, rfl, by omega, by simp, rfl⟩
  have h1 : Lg102_3 ((l, 104, (), (l.length : Int), 0, ()), List.replicate l.length [], ()) = _ := h1
  show F102 Lg102_3 (l, 104, ()) = _
  rw [F102_eq, if_pos (by omega), if_pos (by omega), Int.toNat_natCast, h1]
  rfl

/-- The leading zeros are dropped. -/
def tl0 : List UInt8 → List UInt8
  | [] => []
  | c :: r => if c = 48 then tl0 r else c :: r

theorem tl0_spec : ∀ (s : List UInt8), IsD s → IsD (tl0 s) ∧ dv (tl0 s) = dv s ∧ (tl0 s = [] ∨ (tl0 s).head? ≠ some 48) ∧ (tl0 s).length ≤ s.length
  | [], h => ⟨h, rfl, .inl rfl, by simp [tl0]⟩
  | c :: r, h => by
    have hr : IsD r := fun x hx => h x (List.mem_cons_of_mem _ hx)
    obtain ⟨h1, h2, h3, h4⟩ := tl0_spec r hr
    unfold tl0
    by_cases e : c = 48
    · rw [if_pos e]
      refine ⟨h1, ?_, h3, by simp; omega⟩
      have := dv_append [c] r
      rw [show [c] ++ r = c :: r from rfl, e] at this
      rw [h2, e, this]
      show _ = dv [48] * _ + _
      rw [show dv [48] = 0 from rfl]
      omega
    · rw [if_neg e]
      refine ⟨h, rfl, .inr ?_, Nat.le_refl _⟩
      intro q
      injection q with q
      exact e q

theorem S136_spec : ∀ (s : List UInt8), s.length < 1000000000 → limL S136_1 ((s, 48, ()), ()) = some ((tl0 s, ()), ())
  | s, hl => by
    obtain ⟨z, h1, rfl⟩ := limL_ind (f := S136_1) (fun x => x.1.1.length)
      (fun x => ∃ t, x = ((t, 48, ()), ()) ∧ tl0 t = tl0 s)
      (fun z => z = ((tl0 s, ()), ())) (by
      rintro x ⟨t, rfl, ht⟩
      rw [S136_1_eq]
      cases t with
      | nil =>
        right
        exact ⟨_, if_neg (by simp), by rw [← ht]; rfl⟩
      | cons c r =>
        have hb : (((c.toNat : Nat) : Int) == 48) = decide (c = 48) := by
          rw [Bool.eq_iff_iff, beq_iff_eq, decide_eq_true_eq]
          constructor
          · intro h
            exact UInt8.toNat_inj.1 (show c.toNat = (48 : UInt8).toNat by show c.toNat = 48; omega)
          · intro h
            rw [h]
            rfl
        by_cases e : c = 48
        · left
          refine ⟨((r, 48, ()), ()), ?_, ⟨r, rfl, ?_⟩, by simp⟩
          · rw [if_pos (by simp), if_pos (by simp)]
            refine (if_pos (hb.trans (decide_eq_true e))).trans ?_
            rw [if_pos (by simp; omega), if_pos (by omega)]
            rfl
          · rw [← ht, tl0, if_pos e]
        · right
          refine ⟨((c :: r, ()), ()), ?_, ?_⟩
          · rw [if_pos (by simp), if_pos (by simp)]
            exact if_neg (by rw [show ((((c :: r).getD 0 (0 : UInt8)).toNat : Nat) : Int) = ((c.toNat : Nat) : Int) from rfl, hb, decide_eq_true_eq]; exact e)
          · rw [← ht, tl0, if_neg e]) ((s, 48, ()), ()) ⟨s, rfl, rfl⟩
    exact h1

theorem L107_spec {s : List UInt8} (hl : s.length < 1000000000) : L107 (s, [48], ()) = some ((tl0 s, ()), ()) := by
  show F107 L136 (s, [48], ()) = _
  rw [F107_eq]
  have h136 : L136 (s, 48, ()) = some ((tl0 s, ()), ()) := by
    show F136 Lg136_1 (s, 48, ()) = _
    rw [F136_eq]
    have : Lg136_1 ((s, 48, ()), ()) = _ := S136_spec s hl
    rw [this]
    rfl
  cases s with
  | nil => rfl
  | cons c r =>
    rw [if_neg (by simp), if_neg (by decide), if_pos (by decide), if_pos (by decide)]
    refine (if_pos (by decide)).trans ((if_pos (by decide)).trans ?_)
    refine (congrArg (fun q => Option.bind q _) h136).trans ?_
    rfl

theorem join_flat (xs : List (List UInt8)) : Lib.join xs [] = xs.flatten := by
  unfold Lib.join
  cases xs with
  | nil => rfl
  | cons x r =>
    have := Lib.join_cons x r []
    unfold Lib.join at this
    rw [this]
    unfold Lib.joinTail
    simp

theorem flat_all : ∀ (l : List Int), Wf l → IsD (l.map p9).reverse.flatten ∧ ((dv (l.map p9).reverse.flatten : Nat) : Int) = val l ∧ (l.map p9).reverse.flatten.length = 9 * l.length
  | [], _ => ⟨IsD.nil, rfl, rfl⟩
  | d :: r, h => by
    obtain ⟨h1, h2, h3⟩ := flat_all r h.tail
    obtain ⟨p1, p2, p3⟩ := p9_all h.head.1 h.head.2
    have e : (List.map p9 (d :: r)).reverse.flatten = (r.map p9).reverse.flatten ++ p9 d := by simp
    rw [e]
    refine ⟨h1.append p1, ?_, by rw [List.length_append, h3, p2]; simp; omega⟩
    rw [dv_append, p2, Int.natCast_add, Int.natCast_mul, h2, p3]
    show _ = d + 1000000000 * val r
    have : ((10 ^ 9 : Nat) : Int) = 1000000000 := by decide
    rw [this]
    omega

/-- The string of a number, or that it is too large. -/
def rsZ (z : Int) : List UInt8 × Int × Unit := if 100 < (dec z.natAbs).length then ([], 4, ()) else (str z, 0, ())

theorem L66_spec {z : Int} (hz : Sz 10000 z) : L66 (zl z, ()) = some ((rsZ z), ()) := by
  unfold Sz at hz
  show F66 L102 L106 L107 F108 ((decide (z < 0), lim z.natAbs), ()) = _
  rw [F66_eq]
  by_cases h0 : z = 0
  · subst h0
    rw [show lim (Int.natAbs 0) = [] from lim_zero]
    refine (if_pos (by decide)).trans ?_
    unfold rsZ
    rw [show Int.natAbs 0 = 0 from rfl, dec_small (by decide), if_neg (by decide)]
    rw [show str 0 = [48] from (str_nat 0).trans (dec_small (by decide))]
  · have hw := Wf_lim z.natAbs
    obtain ⟨q1, q2, q3⟩ := flat_all _ hw
    rw [val_lim] at q2
    have hne : lim z.natAbs ≠ [] := fun e => by have := lim_eq_nil.1 e; omega
    have hlp := List.length_pos_iff.2 hne
    rw [if_neg (by rw [beq_iff_eq]; omega), L102_spec hw (by omega)]
    simp only [Option.bind_some]
    rw [L106_spec (by simp; omega)]
    simp only [Option.bind_some]
    have h108 : F108 ((List.map p9 (lim z.natAbs)).reverse, [], ()) = some (((List.map p9 (lim z.natAbs)).reverse.flatten, ()), ()) := by
      unfold F108
      rw [if_pos (by
        unfold joinOk
        simp only [join_flat, q3, Bool.and_eq_true, Nat.ble_eq, List.length_reverse, List.length_map]
        omega)]
      simp only [join_flat]
    rw [h108]
    simp only [Option.bind_some]
    rw [L107_spec (by rw [q3]; omega)]
    simp only [Option.bind_some]
    obtain ⟨t1, t2, t3, t4⟩ := tl0_spec _ q1
    have hT : tl0 (List.map p9 (lim z.natAbs)).reverse.flatten = dec z.natAbs := by
      rw [← dec_dv (s := tl0 (List.map p9 (lim z.natAbs)).reverse.flatten) t1, t2]
      · congr 1
        omega
      · have hn : tl0 (List.map p9 (lim z.natAbs)).reverse.flatten ≠ [] := by
          intro e
          rw [e] at t2
          have : dv [] = 0 := rfl
          omega
        exact ⟨hn, t3.elim (fun e => absurd e hn) .inr⟩
    rw [hT]
    rw [hT, q3] at t4
    unfold rsZ
    by_cases h1 : 100 < (dec z.natAbs).length
    · rw [if_pos (decide_eq_true (by omega)), if_pos h1]
    · rw [if_neg (by rw [decide_eq_true_eq]; omega), if_neg h1]
      unfold str
      by_cases hn : z < 0
      · rw [if_pos (decide_eq_true hn), if_pos hn, if_pos (by omega)]
        rfl
      · rw [if_neg (by rw [decide_eq_true_eq]; exact hn), if_neg hn]
end Go.Proofs.Rf
/- Sums, differences, products, quotients and comparisons of both texts. -/
namespace Go.Proofs.Rf
open Go Go.RowKit

def e2 (a b : List UInt8) : Int := if ciErr a = 0 then ciErr b else ciErr a
def e3 (a b : List UInt8) : Int := if e2 a b = 0 then (if b = [48] then 34 else 0) else e2 a b

theorem szM' {z : Int} {k j : Nat} (h : D.Sz k z) (hk : k ≤ j) : M.Sz j z := (szM h).mono hk

/-! ### The reference's -/
theorem L71_spec {z : Int} (hz : D.Sz 10000 z) : L71 (D.zl z, ()) = some ((rsZ z), ()) := by
  have h46 := L46_spec (z := z) (hz.mono (by decide)) (by unfold D.Sz at hz; omega)
  show F71 L46 ((decide (z < 0), D.lim z.natAbs), ()) = _
  rw [F71_eq]
  have hl : decide (((D.lim z.natAbs).length : Int) > 100) = decide (100 < (dec z.natAbs).length) := by
    rw [decide_eq_decide]
    by_cases h0 : z.natAbs = 0
    · rw [h0, D.lim_zero, dec_small (by decide)]
      simp
    · rw [dec_length h0]
      omega
  rw [hl]
  unfold rsZ
  by_cases h : 100 < (dec z.natAbs).length
  · rw [if_pos (decide_eq_true h), if_pos h]
  · rw [if_neg (by rw [decide_eq_true_eq]; exact h), if_neg h]
    exact (congrArg (fun q => Option.bind q _) h46).trans rfl

end Go.Proofs.Rf
/- The law of exact integers returns true. -/
namespace Go.Proofs.Rf
open Go Go.RowKit
theorem limL_go {A B : Type} {f : A → Option (A ⊕ B)} {x y : A} (h : f x = some (.inl y)) : limL f x = limL f y := by rw [limL_eq, h]
theorem limL_end {A B : Type} {f : A → Option (A ⊕ B)} {x : A} {y : B} (h : f x = some (.inr y)) : limL f x = some y := by rw [limL_eq, h]

end Go.Proofs.Rf
/- The law of sums and products of bits returns true. -/
namespace Go.Proofs.Rf
open Go Go.RowKit
end Go.Proofs.Rf
/- The law of literals returns true. -/
namespace Go.Proofs.Rf
open Go Go.RowKit

/-! ### Digits -/
/-- A digit's value, or -1. -/
def dgI (c : UInt8) : Int := if 48 ≤ c.toNat ∧ c.toNat ≤ 57 then (c.toNat : Int) - 48 else if 97 ≤ c.toNat ∧ c.toNat ≤ 102 then (c.toNat : Int) - 87 else if 65 ≤ c.toNat ∧ c.toNat ≤ 70 then (c.toNat : Int) - 55 else -1

theorem dgI_range (c : UInt8) : -1 ≤ dgI c ∧ dgI c ≤ 15 := by
  unfold dgI
  split
  · omega
  · split
    · omega
    · split <;> omega

theorem dgI_us : dgI 95 = -1 := by decide
theorem dgI_hi {c : UInt8} (h : 128 ≤ c.toNat) : dgI c = -1 := by
  unfold dgI
  rw [if_neg (by omega), if_neg (by omega), if_neg (by omega)]

/-- The digits of a literal and its last byte. -/
def digsF (b : Int) : List UInt8 → Int → Option (List Int × Int)
  | [], last => some ([], last)
  | c :: r, last => if c = 95 ∧ last ≠ 95 then digsF b r 95 else if 0 ≤ dgI c ∧ dgI c < b then (match digsF b r (c.toNat : Int) with | none => none | some (l, e) => some (dgI c :: l, e)) else none

theorem u95 (c : UInt8) : (((c.toNat : Nat) : Int) == 95) = decide (c = 95) := by
  rw [Bool.eq_iff_iff, beq_iff_eq, decide_eq_true_eq]
  constructor
  · intro h
    exact UInt8.toNat_inj.1 (show c.toNat = (95 : UInt8).toNat by show c.toNat = 95; omega)
  · intro h
    rw [h]
    rfl

theorem u95i {c : UInt8} (h : c ≠ 95) : ((c.toNat : Nat) : Int) ≠ 95 := by
  have := u95 c
  rw [decide_eq_false h, beq_eq_false_iff_ne] at this
  exact this

theorem digsF_us {b last : Int} {c : UInt8} {r : List UInt8} (h : c = 95) (h2 : last ≠ 95) : digsF b (c :: r) last = digsF b r 95 := if_pos ⟨h, h2⟩
theorem digsF_bad {b last : Int} {c : UInt8} {r : List UInt8} (h : ¬ (c = 95 ∧ last ≠ 95)) (h2 : ¬ (0 ≤ dgI c ∧ dgI c < b)) : digsF b (c :: r) last = none := by
  rw [digsF, if_neg h, if_neg h2]
theorem digsF_dg {b last : Int} {c : UInt8} {r : List UInt8} (h2 : 0 ≤ dgI c ∧ dgI c < b) : digsF b (c :: r) last = (match digsF b r (c.toNat : Int) with | none => none | some (l, e) => some (dgI c :: l, e)) := by
  have h : c ≠ 95 := by
    rintro rfl
    rw [dgI_us] at h2
    omega
  rw [digsF, if_neg (fun q => h q.1), if_pos h2]

theorem digsF_range {b : Int} : ∀ {s : List UInt8} {last : Int} {l : List Int} {e : Int}, digsF b s last = some (l, e) → l.length ≤ s.length ∧ ∀ d ∈ l, 0 ≤ d ∧ d < b ∧ d ≤ 15
  | [], _, l, e, h => by
    injection h with h
    injection h with h1 h2
    subst h1
    exact ⟨Nat.le_refl _, fun d hd => by cases hd⟩
  | c :: r, last, l, e, h => by
    have hr := dgI_range c
    by_cases h1 : c = 95 ∧ last ≠ 95
    · rw [digsF_us h1.1 h1.2] at h
      obtain ⟨q1, q2⟩ := digsF_range h
      exact ⟨by simp; omega, q2⟩
    · by_cases h2 : 0 ≤ dgI c ∧ dgI c < b
      · rw [digsF_dg h2] at h
        cases hd : digsF b r (c.toNat : Int) with
        | none => rw [hd] at h; cases h
        | some p =>
          obtain ⟨l', e'⟩ := p
          rw [hd] at h
          injection h with h
          injection h with h3 h4
          subst h3
          obtain ⟨q1, q2⟩ := digsF_range hd
          refine ⟨by simp; omega, fun d hd => ?_⟩
          rcases List.mem_cons.1 hd with rfl | hd
          · exact ⟨h2.1, h2.2, hr.2⟩
          · exact q2 d hd
      · rw [digsF_bad h1 h2] at h
        cases h

/-- The value of digits behind a number. -/
def fv (b : Int) : List Int → Int → Int
  | [], n => n
  | d :: r, n => fv b r (n * b + d)

def litZ (b : Int) (s : List UInt8) : List UInt8 × Int × Unit :=
  match digsF b s 95 with
  | none => ([], 19, ())
  | some (l, e) => if e = 95 then ([], 19, ()) else rsZ (fv b l 0)

/-! ### The reference's -/
theorem L67_spec {b : Int} (c : UInt8) (_hb : 2 ≤ b) (_hb2 : b ≤ 16) : L67 ((c.toNat : Int), b, ()) = some ((if 0 ≤ dgI c ∧ dgI c < b then dgI c else -1, ()), ()) := by
  have hc : c.toNat < 256 := c.toNat_lt
  show F67 L72 ((c.toNat : Int), b, ()) = _
  rw [F67_eq, L72_spec]
  simp only [Option.bind_some, isd, ge_iff_le, decide_eq_true_eq, Bool.and_eq_true]
  unfold dgI
  by_cases h1 : 48 ≤ c.toNat ∧ c.toNat ≤ 57
  · rw [if_pos h1, if_pos h1, w8 (by omega) (by omega), wi (by omega) (by omega)]
    by_cases h : b ≤ (c.toNat : Int) - 48
    · rw [if_pos h, if_neg (by omega)]
    · rw [if_neg h, if_pos (by omega)]
  · rw [if_neg h1, if_neg h1]
    by_cases h2 : 97 ≤ c.toNat ∧ c.toNat ≤ 102
    · rw [if_pos (show 97 ≤ (c.toNat : Int) by omega), if_pos (show (c.toNat : Int) ≤ 102 by omega), if_pos h2, w8 (n := (c.toNat : Int) - 97) (by omega) (by omega), wi (n := (c.toNat : Int) - 97) (by omega) (by omega), wi (by omega) (by omega)]
      by_cases h : b ≤ (c.toNat : Int) - 97 + 10
      · rw [if_pos h, if_neg (by omega)]
      · rw [if_neg h, if_pos (by omega), show (c.toNat : Int) - 97 + 10 = (c.toNat : Int) - 87 by omega]
    · rw [if_neg h2]
      have hm : ∀ (A : Option rs67.den), A = some ((-1, ()), ()) → (if b ≤ -1 then some ((-1, ()), ()) else (some ((-1, ()), ()) : Option rs67.den)) = some ((-1, ()), ()) := by
        intro _ _
        split <;> rfl
      have hin : (if 65 ≤ (c.toNat : Int) then
          if (c.toNat : Int) ≤ 70 then
            if b ≤ IntKind.i64.wrap (IntKind.i64.wrap (IntKind.u8.wrap ((c.toNat : Int) - 65)) + 10) then (some ((-1, ()), ()) : Option rs67.den)
            else some ((IntKind.i64.wrap (IntKind.i64.wrap (IntKind.u8.wrap ((c.toNat : Int) - 65)) + 10), ()), ())
          else if b ≤ -1 then some ((-1, ()), ()) else some ((-1, ()), ())
        else if b ≤ -1 then some ((-1, ()), ()) else some ((-1, ()), ())) = some ((if 0 ≤ (if 65 ≤ c.toNat ∧ c.toNat ≤ 70 then (c.toNat : Int) - 55 else -1) ∧ (if 65 ≤ c.toNat ∧ c.toNat ≤ 70 then (c.toNat : Int) - 55 else -1) < b then (if 65 ≤ c.toNat ∧ c.toNat ≤ 70 then (c.toNat : Int) - 55 else -1) else -1, ()), ()) := by
        by_cases h3 : 65 ≤ c.toNat ∧ c.toNat ≤ 70
        · rw [if_pos (show 65 ≤ (c.toNat : Int) by omega), if_pos (show (c.toNat : Int) ≤ 70 by omega), if_pos h3, w8 (n := (c.toNat : Int) - 65) (by omega) (by omega), wi (n := (c.toNat : Int) - 65) (by omega) (by omega), wi (by omega) (by omega)]
          by_cases h : b ≤ (c.toNat : Int) - 65 + 10
          · rw [if_pos h, if_neg (by omega)]
          · rw [if_neg h, if_pos (by omega), show (c.toNat : Int) - 65 + 10 = (c.toNat : Int) - 55 by omega]
        · rw [if_neg h3, if_neg (c := (0 : Int) ≤ -1 ∧ (-1 : Int) < b) (by omega)]
          by_cases h5 : 65 ≤ (c.toNat : Int)
          · rw [if_pos h5, if_neg (show ¬ (c.toNat : Int) ≤ 70 by omega)]
            exact hm _ rfl
          · rw [if_neg h5]
            exact hm _ rfl
      by_cases h4 : 97 ≤ (c.toNat : Int)
      · rw [if_pos h4, if_neg (by omega)]
        exact hin
      · rw [if_neg h4]
        exact hin

/-- What a literal's reader knows. -/
theorem acc_step {n d b : Int} {k : Nat} (hn : 0 ≤ n) (h : n < 100 ^ k) (hb : 2 ≤ b) (hb2 : b ≤ 16) (hd : 0 ≤ d) (hd2 : d ≤ 15) : 0 ≤ n * b + d ∧ n * b + d < 100 ^ (k + 1) := by
  have h1 : n * b ≤ n * 16 := Int.mul_le_mul_of_nonneg_left hb2 hn
  have h2 : 0 ≤ n * b := Int.mul_nonneg hn (by omega)
  have h3 : (100 : Int) ^ (k + 1) = 100 ^ k * 100 := Int.pow_succ ..
  omega

theorem acc_sz {n : Int} {k : Nat} (hn : 0 ≤ n) (h : n < 100 ^ k) : D.Sz (2 * k) n := by
  refine D.lim_length_of ?_
  have e : (10 : Nat) ^ (2 * k) = 100 ^ k := by rw [Nat.pow_mul]
  rw [e]
  have : ((100 ^ k : Nat) : Int) = (100 : Int) ^ k := Int.natCast_pow 100 k
  omega

/-- The byte ahead of a place. -/
def lastB (s : List UInt8) (i : Nat) : Int := if i = 0 then 95 else ((s.getD (i - 1) 0).toNat : Int)

theorem S26_spec {s : List UInt8} {b : Int} (hb : 2 ≤ b) (hb2 : b ≤ 16) (hs : s.length ≤ 500) :
    ∀ (m i : Nat) (n : Int), m = s.length - i → i ≤ s.length → (i < s.length ∨ lastB s i ≠ 95) → 0 ≤ n → n < 100 ^ i →
      limL (S26_17 L67 L68 L69 L70) ((s, b, (), (i : Int), ()), (((D.zl n).1, (D.zl n).2, ()), ())) = some (match digsF b (s.drop i) (lastB s i) with
        | none => .inl (([], 19, ()), ())
        | some (l, e) => if e = 95 then .inl (([], 19, ()), ()) else .inr ((s, (), ()), (((D.zl (fv b l n)).1, (D.zl (fv b l n)).2, ()), ())))
  | 0, i, n, hm, hi, hu, hn0, hn1 => by
    obtain rfl : i = s.length := by omega
    have hu : lastB s s.length ≠ 95 := hu.elim (fun q => absurd q (by omega)) id
    rw [limL_end (f := S26_17 L67 L68 L69 L70) (y := .inr ((s, (), ()), (((D.zl n).1, (D.zl n).2, ()), ())))]
    · rw [List.drop_of_length_le (Nat.le_refl _)]
      simp only [digsF]
      rw [if_neg hu]
      rfl
    · rw [S26_17_eq, if_neg (by rw [decide_eq_true_eq]; omega)]
  | m + 1, i, n, hm, hi, hu, hn0, hn1 => by
    have hlt : i < s.length := by omega
    have hcons := getD_drop8 hlt
    rw [hcons]
    have hlast : lastB s (i + 1) = ((s.getD i 0).toNat : Int) := by
      unfold lastB
      rw [if_neg (by omega), Nat.add_sub_cancel]
    by_cases hc : s.getD i 0 = 95
    · have hus : (((s.getD i (0 : UInt8)).toNat : Int) == 95) = true := by rw [u95, decide_eq_true hc]
      by_cases hl : lastB s i = 95
      · rw [digsF_bad (fun q => q.2 hl) (by rw [hc, dgI_us]; omega)]
        refine limL_end ?_
        rw [S26_17_eq, if_pos (decide_eq_true (by omega)), if_pos (by omega), if_pos (by omega), Int.toNat_natCast, if_pos hus]
        by_cases h0 : i = 0
        · rw [if_pos (by rw [beq_iff_eq]; omega)]
        · rw [if_neg (by rw [beq_iff_eq]; omega)]
          by_cases h1 : i = s.length - 1
          · rw [if_pos (by rw [beq_iff_eq, wi (by omega) (by omega)]; omega)]
          · rw [if_neg (by rw [beq_iff_eq, wi (by omega) (by omega)]; omega), wi (n := (i : Int) - 1) (by omega) (by omega), if_pos (by omega), if_pos (by omega)]
            unfold lastB at hl
            rw [if_neg h0] at hl
            rw [show ((i : Int) - 1).toNat = i - 1 by omega]
            rw [if_pos (by rw [beq_iff_eq]; exact hl)]
      · have h0 : i ≠ 0 := by
          rintro rfl
          exact hl rfl
        rw [digsF_us hc hl]
        by_cases h1 : i = s.length - 1
        · rw [show s.drop (i + 1) = [] from List.drop_of_length_le (by omega)]
          simp only [digsF, if_true]
          refine limL_end ?_
          rw [S26_17_eq, if_pos (decide_eq_true (by omega)), if_pos (by omega), if_pos (by omega), Int.toNat_natCast, if_pos hus, if_neg (by rw [beq_iff_eq]; omega), if_pos (by rw [beq_iff_eq, wi (by omega) (by omega)]; omega)]
        · have hlast2 : lastB s (i + 1) = 95 := by rw [hlast, hc]; rfl
          have ih := S26_spec hb hb2 hs m (i + 1) n (by omega) (by omega) (.inl (by omega)) hn0 (by
            have h3 : (100 : Int) ^ (i + 1) = 100 ^ i * 100 := Int.pow_succ ..
            omega)
          rw [hlast2] at ih
          rw [← ih]
          refine limL_go ?_
          rw [S26_17_eq, if_pos (decide_eq_true (by omega)), if_pos (by omega), if_pos (by omega), Int.toNat_natCast, if_pos hus, if_neg (by rw [beq_iff_eq]; omega), if_neg (by rw [beq_iff_eq, wi (by omega) (by omega)]; omega), wi (n := (i : Int) - 1) (by omega) (by omega), if_pos (by omega), if_pos (by omega), wi (n := (i : Int) + 1) (by omega) (by omega)]
          unfold lastB at hl
          rw [if_neg h0] at hl
          rw [show ((i : Int) - 1).toNat = i - 1 by omega]
          rw [if_neg (by rw [beq_iff_eq]; exact hl)]
          rfl
    · have hus : (((s.getD i (0 : UInt8)).toNat : Int) == 95) = false := by rw [u95, decide_eq_false hc]
      by_cases hd : 0 ≤ dgI (s.getD i 0) ∧ dgI (s.getD i 0) < b
      · rw [digsF_dg hd]
        have hr := dgI_range (s.getD i 0)
        obtain ⟨a1, a2⟩ := acc_step hn0 hn1 hb hb2 hd.1 hr.2
        have hsz := acc_sz hn0 hn1
        have ih := S26_spec hb hb2 hs m (i + 1) (n * b + dgI (s.getD i 0)) (by omega) (by omega) (.inr (by rw [hlast]; exact u95i hc)) a1 a2
        rw [hlast] at ih
        have hb16 : D.Sz 2 b := D.lim_length_of (k := 2) (by omega)
        have hd15 : D.Sz 2 (dgI (s.getD i 0)) := D.lim_length_of (k := 2) (by omega)
        obtain ⟨B, hB⟩ : ∃ B : Nat, b = (B : Int) := ⟨b.toNat, by omega⟩
        obtain ⟨d, hdd⟩ : ∃ d : Nat, dgI (s.getD i 0) = (d : Int) := ⟨(dgI (s.getD i 0)).toNat, by omega⟩
        have h70b : L70 (b, ()) = some ((D.zl b, ()), ()) := by rw [hB]; exact L70_spec (by omega)
        have h70d : L70 (dgI (s.getD i 0), ()) = some ((D.zl (dgI (s.getD i 0)), ()), ()) := by rw [hdd]; exact L70_spec (by omega)
        have h69 : L69 (((D.zl n).1, (D.zl n).2), ((D.zl b).1, (D.zl b).2), ()) = _ := L69_spec (x := n) (y := b) (hsz.mono (by omega)) (hb16.mono (by omega))
        have h68 : L68 (((D.zl (n * b)).1, (D.zl (n * b)).2), ((D.zl (dgI (s.getD i 0))).1, (D.zl (dgI (s.getD i 0))).2), ()) = _ := L68_spec (x := n * b) (y := dgI (s.getD i 0)) ((hsz.mul hb16).mono (by omega)) (hd15.mono (by omega))
        have hstep : S26_17 L67 L68 L69 L70 ((s, b, (), (i : Int), ()), (((D.zl n).1, (D.zl n).2, ()), ())) = some (.inl ((s, b, (), ((i + 1 : Nat) : Int), ()), (((D.zl (n * b + dgI (s.getD i 0))).1, (D.zl (n * b + dgI (s.getD i 0))).2, ()), ()))) := by
          rw [S26_17_eq, if_pos (decide_eq_true (by omega)), if_pos (by omega), if_pos (by omega), Int.toNat_natCast, hus, if_neg (by decide), if_pos (by omega), if_pos (by omega), L67_spec _ hb hb2, if_pos hd]
          simp only [Option.bind_some]
          rw [if_neg (show ¬ decide (dgI (s.getD i 0) < 0) = true by rw [decide_eq_true_eq]; omega), h70b]
          simp only [Option.bind_some]
          rw [h69]
          simp only [Option.bind_some]
          rw [h70d]
          simp only [Option.bind_some]
          rw [h68, wi (n := (i : Int) + 1) (by omega) (by omega)]
          rfl
        rw [limL_go hstep, ih]
        cases digsF b (s.drop (i + 1)) ((s.getD i 0).toNat : Int) with
        | none => rfl
        | some p => rfl
      · rw [digsF_bad (fun q => hc q.1) hd]
        refine limL_end ?_
        rw [S26_17_eq, if_pos (decide_eq_true (by omega)), if_pos (by omega), if_pos (by omega), Int.toNat_natCast, hus, if_neg (by decide), if_pos (by omega), if_pos (by omega), L67_spec _ hb hb2, if_neg hd]
        rfl

theorem fv_acc {b : Int} (hb : 2 ≤ b) (hb2 : b ≤ 16) : ∀ (l : List Int) (n : Int) (k : Nat), (∀ d ∈ l, 0 ≤ d ∧ d < b ∧ d ≤ 15) → 0 ≤ n → n < 100 ^ k → 0 ≤ fv b l n ∧ fv b l n < 100 ^ (k + l.length)
  | [], n, k, _, h0, h1 => ⟨h0, h1⟩
  | d :: r, n, k, hd, h0, h1 => by
    obtain ⟨q1, q2, q3⟩ := hd d (List.mem_cons_self ..)
    obtain ⟨a1, a2⟩ := acc_step h0 h1 hb hb2 q1 q3
    have := fv_acc hb hb2 r (n * b + d) (k + 1) (fun x hx => hd x (List.mem_cons_of_mem _ hx)) a1 a2
    rw [show k + (d :: r).length = k + 1 + r.length by simp; omega]
    exact this

/-- The end of the reference's Literal. -/
noncomputable def end26 (b : Int) (s : List UInt8) : Option rs26.den :=
  (Lg26_17 ((s, b, (), 0, ()), (false, [], ()), ())).bind fun y =>
    Sum.elim (fun y => some ((y.1.1, y.1.2.1, ()), ()))
      (fun z =>
        if (z.1.1 == []) = true then some (([], 19, ()), ())
        else (L71 ((z.2.1.1, z.2.1.2.1), ())).bind fun y => some ((y.1.1, y.1.2.1, ()), ()))
      y

theorem end26_spec {b : Int} {s : List UInt8} (hb : 2 ≤ b) (hb2 : b ≤ 16) (hs : s.length ≤ 500) : end26 b s = some ((litZ b s), ()) := by
  unfold end26 litZ
  cases s with
  | nil =>
    have : Lg26_17 ((([] : List UInt8), b, (), 0, ()), (false, [], ()), ()) = some (.inr ((([] : List UInt8), (), ()), ((false, [], ()), ()))) := by
      refine limL_end ?_
      rw [S26_17_eq, if_neg (by simp)]
    rw [this]
    rfl
  | cons c r =>
    have hz0 : D.zl 0 = (false, []) := by unfold D.zl; rw [show D.lim (Int.natAbs 0) = [] from D.lim_zero]; rfl
    have h := S26_spec (s := c :: r) hb hb2 hs _ 0 0 rfl (Nat.zero_le _) (.inl (by simp)) (by decide) (by decide)
    rw [hz0] at h
    have h : Lg26_17 ((c :: r, b, (), 0, ()), (false, [], ()), ()) = _ := h
    rw [h]
    rw [List.drop_zero, show lastB (c :: r) 0 = 95 from rfl]
    simp only [Option.bind_some]
    cases hd : digsF b (c :: r) 95 with
    | none => rfl
    | some p =>
      obtain ⟨l, e⟩ := p
      simp only
      by_cases he : e = 95
      · rw [if_pos he, if_pos he]
        rfl
      · rw [if_neg he, if_neg he]
        obtain ⟨q1, q2⟩ := digsF_range hd
        obtain ⟨v1, v2⟩ := fv_acc hb hb2 l 0 0 q2 (by decide) (by decide)
        have hsz := acc_sz v1 v2
        simp only [Sum.elim_inr]
        refine (if_neg (by simp)).trans ?_
        exact (congrArg (fun q => Option.bind q _) (L71_spec (z := fv b l 0) (hsz.mono (by omega)))).trans rfl

/-- What a literal denotes. -/
def LIT (s : List UInt8) : List UInt8 × Int × Unit :=
  if 500 < s.length then ([], 20, ())
  else if s.take 2 = [48, 120] then litZ 16 (s.drop 2)
  else if s.take 2 = [48, 111] then litZ 8 (s.drop 2)
  else if s.take 2 = [48, 98] then litZ 2 (s.drop 2)
  else if 1 < s.length ∧ s.getD 0 0 = 48 then ([], 19, ())
  else litZ 10 s

theorem u8k (c : UInt8) (k : Nat) (hk : k < 256) : (((c.toNat : Nat) : Int) == (k : Int)) = decide (c = UInt8.ofNat k) := by
  have hk2 : (UInt8.ofNat k).toNat = k := by rw [UInt8.toNat_ofNat']; exact Nat.mod_eq_of_lt hk
  rw [Bool.eq_iff_iff, beq_iff_eq, decide_eq_true_eq]
  constructor
  · intro h
    exact UInt8.toNat_inj.1 (by rw [hk2]; omega)
  · intro h
    rw [h, hk2]

theorem L26_spec (s : List UInt8) : L26 (s, ()) = some ((LIT s), ()) := by
  show F26 L71 Lg26_17 (s, ()) = _
  rw [F26_eq]
  unfold LIT
  by_cases h5 : 500 < s.length
  · rw [if_pos (decide_eq_true (by omega)), if_pos h5]
  · rw [if_neg (by rw [decide_eq_true_eq]; omega), if_neg h5]
    have e10 := end26_spec (b := 10) (s := s) (by decide) (by decide) (by omega)
    unfold end26 at e10
    match s, h5, e10 with
    | [], h5, e10 =>
      rw [if_neg (by simp), if_neg (by simp), if_neg (by simp), if_neg (by simp), if_neg (by simp)]
      exact e10
    | [c], h5, e10 =>
      rw [if_neg (by simp), if_neg (by simp), if_neg (by simp), if_neg (by simp), if_neg (by simp)]
      exact e10
    | c :: d :: r, h5, e10 =>
      have hl : (c :: d :: r).length = r.length + 2 := rfl
      have hr : r.length ≤ 500 := by rw [hl] at h5; omega
      rw [if_pos (decide_eq_true (by rw [hl]; omega)), if_pos (by rw [hl]; omega)]
      rw [show (c :: d :: r).getD 0 0 = c from rfl, show (c :: d :: r).getD 1 0 = d from rfl, show List.take 2 (c :: d :: r) = [c, d] from rfl, show List.drop 2 (c :: d :: r) = r from rfl]
      rw [show ((c.toNat : Int) == 48) = decide (c = 48) from u8k c 48 (by decide), show ((d.toNat : Int) == 120) = decide (d = 120) from u8k d 120 (by decide), show ((d.toNat : Int) == 111) = decide (d = 111) from u8k d 111 (by decide), show ((d.toNat : Int) == 98) = decide (d = 98) from u8k d 98 (by decide)]
      simp only [decide_eq_true_eq]
      by_cases hc : c = 48
      · subst hc
        rw [if_pos rfl, if_pos (by rw [hl]; omega)]
        by_cases h1 : d = 120
        · subst h1
          rw [if_pos rfl, if_pos (by rw [hl]; omega), if_pos (Int.le_refl _), if_pos rfl]
          exact end26_spec (b := 16) (by decide) (by decide) hr
        · rw [if_neg h1, if_neg (c := [48, d] = [48, 120]) (by simp [h1])]
          by_cases h2 : d = 111
          · subst h2
            rw [if_pos rfl, if_pos (by rw [hl]; omega), if_pos (Int.le_refl _), if_pos rfl]
            exact end26_spec (b := 8) (by decide) (by decide) hr
          · rw [if_neg h2, if_neg (c := [48, d] = [48, 111]) (by simp [h2])]
            by_cases h3 : d = 98
            · subst h3
              rw [if_pos rfl, if_pos (by rw [hl]; omega), if_pos (Int.le_refl _), if_pos rfl]
              exact end26_spec (b := 2) (by decide) (by decide) hr
            · rw [if_neg h3, if_neg (c := [48, d] = [48, 98]) (by simp [h3]), if_pos ⟨by rw [hl]; omega, rfl⟩]
      · rw [if_neg hc, if_neg (c := [c, d] = [48, 120]) (by simp [hc]), if_neg (c := [c, d] = [48, 111]) (by simp [hc]), if_neg (c := [c, d] = [48, 98]) (by simp [hc]), if_neg (fun q => hc q.2)]
        exact e10
end Go.Proofs.Rf
/- The program's literals; the law returns true. -/
namespace Go.Proofs.Rf
open Go Go.RowKit

theorem L200_spec (c : Int) : L200 (c, ()) = some ((if 48 ≤ c ∧ c ≤ 57 then c - 48 else -1, ()), ()) := by
  show F200 (c, ()) = _
  rw [F200_eq]
  simp only [ge_iff_le, decide_eq_true_eq]
  by_cases h : 48 ≤ c
  · rw [if_pos h]
    by_cases h2 : c ≤ 57
    · rw [if_pos h2, if_pos ⟨h, h2⟩, w32i (by omega) (by omega), wi (by omega) (by omega)]
    · rw [if_neg h2, if_neg (fun q => h2 q.2)]
  · rw [if_neg h, if_neg (fun q => h q.1)]

theorem L199_spec (c : Int) : L199 (c, ()) = some ((if 48 ≤ c ∧ c ≤ 57 then c - 48 else if 97 ≤ c ∧ c ≤ 102 then c - 87 else if 65 ≤ c ∧ c ≤ 70 then c - 55 else -1, ()), ()) := by
  have h200 := L200_spec c
  show F199 L200 (c, ()) = _
  rw [F199_eq, h200]
  simp only [ge_iff_le, decide_eq_true_eq, Option.bind_some]
  by_cases h : 97 ≤ c ∧ c ≤ 102
  · rw [if_pos h.1, if_pos h.2, if_neg (show ¬ (48 ≤ c ∧ c ≤ 57) by omega), if_pos h, w32i (n := c - 97) (by omega) (by omega), wi (n := c - 97) (by omega) (by omega), wi (by omega) (by omega), show c - 97 + 10 = c - 87 by omega]
  · rw [if_neg h]
    have hin : (if 65 ≤ c then
          if c ≤ 70 then (some ((IntKind.i64.wrap (IntKind.i64.wrap (IntKind.i32.wrap (c - 65)) + 10), ()), ()) : Option rs199.den)
          else some ((if 48 ≤ c ∧ c ≤ 57 then c - 48 else -1, ()), ())
        else some ((if 48 ≤ c ∧ c ≤ 57 then c - 48 else -1, ()), ())) = some ((if 48 ≤ c ∧ c ≤ 57 then c - 48 else if 65 ≤ c ∧ c ≤ 70 then c - 55 else -1, ()), ()) := by
      by_cases h3 : 65 ≤ c ∧ c ≤ 70
      · rw [if_pos h3.1, if_pos h3.2, if_neg (show ¬ (48 ≤ c ∧ c ≤ 57) by omega), if_pos h3, w32i (n := c - 65) (by omega) (by omega), wi (n := c - 65) (by omega) (by omega), wi (by omega) (by omega), show c - 65 + 10 = c - 55 by omega]
      · rw [if_neg h3]
        by_cases h5 : 65 ≤ c
        · rw [if_pos h5, if_neg (fun q => h3 ⟨h5, q⟩)]
        · rw [if_neg h5]
    by_cases h4 : 97 ≤ c
    · rw [if_pos h4, if_neg (fun q => h ⟨h4, q⟩)]
      exact hin
    · rw [if_neg h4]
      exact hin

/-- What a sort of literals makes of a rune. -/
def okB (f b : Int) : Prop := (f = 200 ∧ b = 16) ∨ (f = 201 ∧ (b = 8 ∨ b = 2 ∨ b = 10))

abbrev X64 (s : List UInt8) (last : Int) (pre : List UInt8) (b f : Int) (rw1 : List Int) (p : Nat) : sh64_4.den := ((s, (), (), last, (), ()), ((pre, b, f, ()), rw1, (s, p), ()))
abbrev E64 : denX w64_4 := .inl (([], false, ()), ())

def body64 (C : Option ((Int × Unit) × Unit)) (s : List UInt8) (last : Int) (pre : List UInt8) (b f : Int) (rw1 : List Int) (p : Nat) : Option (sh64_4.den ⊕ denX w64_4) :=
  C.bind fun y =>
    if ((↑(Utf8.decode ⟨⟨s⟩⟩ p).1 : Int) == 95) = true then
      if (!last == 95) = true then
        some (.inl (X64 s (↑(Utf8.decode ⟨⟨s⟩⟩ p).1 : Int) pre b f rw1 (p + (Utf8.decode ⟨⟨s⟩⟩ p).2)))
      else
        if decide (y.1.1 ≥ 0) = true then
          if decide (y.1.1 < IntKind.i64.wrap b) = true then
            if rw1.length + [IntKind.u32.wrap y.1.1].length ≤ 4294967296 then
              some (.inl (X64 s (↑(Utf8.decode ⟨⟨s⟩⟩ p).1 : Int) pre b f (rw1 ++ [IntKind.u32.wrap y.1.1]) (p + (Utf8.decode ⟨⟨s⟩⟩ p).2)))
            else none
          else some (.inr E64)
        else some (.inr E64)
    else
      if decide (y.1.1 ≥ 0) = true then
        if decide (y.1.1 < IntKind.i64.wrap b) = true then
          if rw1.length + [IntKind.u32.wrap y.1.1].length ≤ 4294967296 then
            some (.inl (X64 s (↑(Utf8.decode ⟨⟨s⟩⟩ p).1 : Int) pre b f (rw1 ++ [IntKind.u32.wrap y.1.1]) (p + (Utf8.decode ⟨⟨s⟩⟩ p).2)))
          else none
        else some (.inr E64)
      else some (.inr E64)

theorem S64_hex (F199 : (SV.denL ps199) → Option (rs199).den) (F200 : (SV.denL ps200) → Option (rs200).den) (s : List UInt8) (last : Int) (pre : List UInt8) (b : Int) (rw1 : List Int) (p : Nat) :
    S64_4 F199 F200 (X64 s last pre b 200 rw1 p) = (if p < s.length then body64 (F199 ((↑(Utf8.decode ⟨⟨s⟩⟩ p).1 : Int), ())) s last pre b 200 rw1 p else some (.inr (.inr ((s, (), (), last, ()), (pre, b, 200, ()), rw1, ())))) := by kernel_rfl
theorem S64_dec (F199 : (SV.denL ps199) → Option (rs199).den) (F200 : (SV.denL ps200) → Option (rs200).den) (s : List UInt8) (last : Int) (pre : List UInt8) (b : Int) (rw1 : List Int) (p : Nat) :
    S64_4 F199 F200 (X64 s last pre b 201 rw1 p) = (if p < s.length then body64 (F200 ((↑(Utf8.decode ⟨⟨s⟩⟩ p).1 : Int), ())) s last pre b 201 rw1 p else some (.inr (.inr ((s, (), (), last, ()), (pre, b, 201, ()), rw1, ())))) := by kernel_rfl

/-- The value of a rune. -/
def rvI (f : Int) (c : Int) : Int := if f = 200 then (if 48 ≤ c ∧ c ≤ 57 then c - 48 else if 97 ≤ c ∧ c ≤ 102 then c - 87 else if 65 ≤ c ∧ c ≤ 70 then c - 55 else -1) else (if 48 ≤ c ∧ c ≤ 57 then c - 48 else -1)

theorem S64_eq' {f b : Int} (h : okB f b) (s : List UInt8) (last : Int) (pre : List UInt8) (rw1 : List Int) (p : Nat) :
    S64_4 L199 L200 (X64 s last pre b f rw1 p) = (if p < s.length then body64 (some ((rvI f (↑(Utf8.decode ⟨⟨s⟩⟩ p).1 : Int), ()), ())) s last pre b f rw1 p else some (.inr (.inr ((s, (), (), last, ()), (pre, b, f, ()), rw1, ())))) := by
  unfold rvI
  rcases h with ⟨rfl, _⟩ | ⟨rfl, _⟩
  · rw [S64_hex, L199_spec, if_pos rfl]
  · rw [S64_dec, L200_spec, if_neg (c := (201 : Int) = 200) (by decide)]

theorem okB_range {f b : Int} (h : okB f b) : 2 ≤ b ∧ b ≤ 16 := by
  unfold okB at h
  omega

theorem rvI_lo {f b : Int} (h : okB f b) (c : UInt8) : (0 ≤ rvI f (c.toNat : Int) ∧ rvI f (c.toNat : Int) < b ↔ 0 ≤ dgI c ∧ dgI c < b) ∧ (0 ≤ dgI c ∧ dgI c < b → rvI f (c.toNat : Int) = dgI c) := by
  unfold okB at h
  unfold rvI dgI
  by_cases h1 : 48 ≤ c.toNat ∧ c.toNat ≤ 57
  · have hc : 48 ≤ (c.toNat : Int) ∧ (c.toNat : Int) ≤ 57 := by omega
    rw [if_pos h1]
    by_cases hf : f = 200
    · rw [if_pos hf, if_pos hc]
      simp
    · rw [if_neg hf, if_pos hc]
      simp
  · rw [if_neg h1]
    by_cases hf : f = 200
    · rw [if_pos hf, if_neg (show ¬ (48 ≤ (c.toNat : Int) ∧ (c.toNat : Int) ≤ 57) by omega)]
      by_cases h2 : 97 ≤ c.toNat ∧ c.toNat ≤ 102
      · rw [if_pos h2, if_pos (show 97 ≤ (c.toNat : Int) ∧ (c.toNat : Int) ≤ 102 by omega)]
        simp
      · rw [if_neg h2, if_neg (show ¬ (97 ≤ (c.toNat : Int) ∧ (c.toNat : Int) ≤ 102) by omega)]
        by_cases h3 : 65 ≤ c.toNat ∧ c.toNat ≤ 70
        · rw [if_pos h3, if_pos (show 65 ≤ (c.toNat : Int) ∧ (c.toNat : Int) ≤ 70 by omega)]
          simp
        · rw [if_neg h3, if_neg (show ¬ (65 ≤ (c.toNat : Int) ∧ (c.toNat : Int) ≤ 70) by omega)]
          simp
    · rw [if_neg hf, if_neg (show ¬ (48 ≤ (c.toNat : Int) ∧ (c.toNat : Int) ≤ 57) by omega)]
      by_cases h2 : 97 ≤ c.toNat ∧ c.toNat ≤ 102
      · rw [if_pos h2]
        omega
      · rw [if_neg h2]
        by_cases h3 : 65 ≤ c.toNat ∧ c.toNat ≤ 70
        · rw [if_pos h3]
          omega
        · rw [if_neg h3]
          omega

theorem rvI_hi {f c : Int} (h : 128 ≤ c) : rvI f c = -1 := by
  unfold rvI
  by_cases hf : f = 200
  · rw [if_pos hf, if_neg (show ¬ (48 ≤ c ∧ c ≤ 57) by omega), if_neg (show ¬ (97 ≤ c ∧ c ≤ 102) by omega), if_neg (show ¬ (65 ≤ c ∧ c ≤ 70) by omega)]
  · rw [if_neg hf, if_neg (show ¬ (48 ≤ c ∧ c ≤ 57) by omega)]

/-- The branch of a digit. -/
theorem dig_yes {f b : Int} (h : okB f b) {c : UInt8} (hd : 0 ≤ dgI c ∧ dgI c < b) {rw1 : List Int} (hl : rw1.length < 1000) {u v : Option (sh64_4.den ⊕ denX w64_4)} {w : List Int → Option (sh64_4.den ⊕ denX w64_4)} :
    (if decide (rvI f (c.toNat : Int) ≥ 0) = true then
        if decide (rvI f (c.toNat : Int) < IntKind.i64.wrap b) = true then
          if rw1.length + [IntKind.u32.wrap (rvI f (c.toNat : Int))].length ≤ 4294967296 then
            w (rw1 ++ [IntKind.u32.wrap (rvI f (c.toNat : Int))])
          else u
        else v
      else v) = w (rw1 ++ [dgI c]) := by
  have hb := okB_range h
  have hr := dgI_range c
  rw [(rvI_lo h c).2 hd, if_pos (decide_eq_true hd.1), if_pos (by rw [decide_eq_true_eq, wi (by omega) (by omega)]; exact hd.2), if_pos (by simp; omega), w32 hd.1 (by omega)]

theorem dig_no {f b : Int} (h : okB f b) {x : Int} (hd : ¬ (0 ≤ x ∧ x < b)) {rw1 : List Int} {u v : Option (sh64_4.den ⊕ denX w64_4)} {w : List Int → Option (sh64_4.den ⊕ denX w64_4)} :
    (if decide (x ≥ 0) = true then
        if decide (x < IntKind.i64.wrap b) = true then
          if rw1.length + [IntKind.u32.wrap x].length ≤ 4294967296 then
            w (rw1 ++ [IntKind.u32.wrap x])
          else u
        else v
      else v) = v := by
  have hb := okB_range h
  rw [wi (n := b) (by omega) (by omega)]
  by_cases h0 : 0 ≤ x
  · rw [if_pos (decide_eq_true h0), if_neg (by rw [decide_eq_true_eq]; exact fun q => hd ⟨h0, q⟩)]
  · rw [if_neg (by rw [decide_eq_true_eq]; exact h0)]

theorem S64_spec {f b : Int} (h : okB f b) {s pre : List UInt8} (hs : s.length ≤ 500) :
    ∀ (m p : Nat) (last : Int) (rw1 : List Int), m = s.length - p → p ≤ s.length → rw1.length ≤ p →
      limL (S64_4 L199 L200) (X64 s last pre b f rw1 p) = some (match digsF b (s.drop p) last with
        | none => .inl (([], false, ()), ())
        | some (l, e) => .inr ((s, (), (), e, ()), ((pre, b, f, ()), rw1 ++ l, ())))
  | 0, p, last, rw1, hm, hp, hl => by
    obtain rfl : p = s.length := by omega
    rw [List.drop_of_length_le (Nat.le_refl _)]
    simp only [digsF, List.append_nil]
    refine limL_end ?_
    rw [S64_eq' h, if_neg (by omega)]
  | m + 1, p, last, rw1, hm, hp, hl => by
    have hlt : p < s.length := by omega
    have hstep := S64_eq' h s last pre rw1 p
    rw [if_pos hlt] at hstep
    unfold body64 at hstep
    simp only [Option.bind_some] at hstep
    rw [getD_drop8 hlt]
    by_cases hc : (s.getD p 0).toNat < 128
    · have hd : Utf8.decode { data := { toList := s } } p = _ := decode_lo hlt hc
      rw [hd] at hstep
      simp only at hstep
      rw [u95] at hstep
      by_cases hu : s.getD p 0 = 95
      · have hlo : ((s.getD p 0).toNat : Int) = 95 := by rw [hu]; rfl
        rw [if_pos (decide_eq_true hu)] at hstep
        by_cases hl2 : last = 95
        · rw [if_neg (by rw [hl2]; decide)] at hstep
          have hbad : ¬ (0 ≤ dgI (s.getD p 0) ∧ dgI (s.getD p 0) < b) := by rw [hu, dgI_us]; omega
          rw [dig_no h (fun q => hbad ((rvI_lo h _).1.1 q)) (w := fun r => some (.inl (X64 s ((s.getD p 0).toNat : Int) pre b f r (p + 1))))] at hstep
          rw [digsF_bad (fun q => q.2 hl2) hbad]
          exact limL_end hstep
        · rw [if_pos (by rw [Bool.not_eq_true', beq_eq_false_iff_ne]; exact hl2)] at hstep
          rw [digsF_us hu hl2, limL_go hstep, S64_spec h hs m (p + 1) _ rw1 (by omega) (by omega) (by omega), hlo]
      · rw [if_neg (by rw [decide_eq_true_eq]; exact hu)] at hstep
        by_cases hdg : 0 ≤ dgI (s.getD p 0) ∧ dgI (s.getD p 0) < b
        · rw [dig_yes h hdg (by omega) (w := fun r => some (.inl (X64 s ((s.getD p 0).toNat : Int) pre b f r (p + 1))))] at hstep
          rw [digsF_dg hdg, limL_go hstep, S64_spec h hs m (p + 1) _ (rw1 ++ [dgI (s.getD p 0)]) (by omega) (by omega) (by simp; omega)]
          cases digsF b (s.drop (p + 1)) ((s.getD p 0).toNat : Int) with
          | none => rfl
          | some q =>
            obtain ⟨l, e⟩ := q
            simp only [List.append_assoc, List.singleton_append]
        · rw [dig_no h (fun q => hdg ((rvI_lo h _).1.1 q)) (w := fun r => some (.inl (X64 s ((s.getD p 0).toNat : Int) pre b f r (p + 1))))] at hstep
          rw [digsF_bad (fun q => hu q.1) hdg]
          exact limL_end hstep
    · have hh : 128 ≤ (Utf8.decode { data := { toList := s } } p).1 := decode_hi hlt (by omega)
      have hu : s.getD p 0 ≠ 95 := by
        intro e
        rw [e] at hc
        exact hc (by decide)
      generalize hD : Utf8.decode { data := { toList := s } } p = D at *
      rw [rvI_hi (f := f) (c := (D.1 : Int)) (by omega), if_neg (by rw [beq_iff_eq]; omega), if_neg (by decide)] at hstep
      rw [digsF_bad (fun q => hu q.1) (by rw [dgI_hi (by omega)]; omega)]
      exact limL_end hstep

theorem L64_spec {f b : Int} (h : okB f b) {s pre : List UInt8} (hs : s.length ≤ 500) :
    L64 ((pre, b, f), s, ()) = some ((match digsF b s 95 with
      | none => ([], false, ())
      | some (l, e) => (l, !(e == 95) && (!(pre == []) || (s == [48] || !(s.getD 0 0 == 48))), ())), ()) := by
  have hS := S64_spec h hs (pre := pre) _ 0 95 [] rfl (Nat.zero_le _) (Nat.le_refl _)
  have hS : Lg64_4 ((s, (), (), 95, (), ()), (pre, b, f, ()), [], (s, 0), ()) = _ := hS
  show F64 Lg64_4 ((pre, b, f), s, ()) = _
  rw [F64_eq, hS, List.drop_zero]
  simp only [Option.bind_some]
  cases hd : digsF b s 95 with
  | none => rfl
  | some q =>
    obtain ⟨l, e⟩ := q
    simp only [Sum.elim_inr, List.nil_append]
    by_cases he : e = 95
    · subst he
      rfl
    · have hne : s ≠ [] := by
        rintro rfl
        injection hd with hd
        injection hd with _ hd
        exact he hd.symm
      have hlp := List.length_pos_iff.2 hne
      have he' : (e == 95) = false := by rw [beq_eq_false_iff_ne]; exact he
      rw [he']
      refine (if_pos rfl).trans ?_
      simp only [Bool.not_false, Bool.true_and]
      cases hp : pre == [] with
      | false => rfl
      | true =>
        simp only [Bool.not_true, Bool.false_eq_true, if_false, Bool.false_or]
        cases h48 : s == [48] with
        | true => rfl
        | false =>
          simp only [Bool.false_eq_true, if_false, Bool.false_or]
          rw [if_pos (by omega), show (((s.getD 0 (0 : UInt8)).toNat : Int) == 48) = decide (s.getD 0 0 = 48) from u8k _ 48 (by decide)]
          congr 3

theorem S25_15_spec {pre : List UInt8} {b f : Int} (hb : 2 ≤ b) (hb2 : b ≤ 16) (l : List Int) (hd : ∀ d ∈ l, 0 ≤ d ∧ d < b ∧ d ≤ 15) (hl : l.length ≤ 500) :
    ∀ (m i : Nat) (n : Int), m = l.length - i → i ≤ l.length → 0 ≤ n → n < 100 ^ i →
      limL (S25_15 L65) (((), (), l, (l.length : Int), (i : Int), ()), ((pre, b, f, ()), (false, M.lim n.toNat, ()), ())) = some (((), ()), ((false, M.lim (fv b (l.drop i) n).toNat, ()), ()))
  | 0, i, n, hm, hi, h0, h1 => by
    obtain rfl : i = l.length := by omega
    rw [List.drop_of_length_le (Nat.le_refl _)]
    refine limL_end ?_
    rw [S25_15_eq, if_neg (by rw [decide_eq_true_eq]; omega)]
    rfl
  | m + 1, i, n, hm, hi, h0, h1 => by
    have hlt : i < l.length := by omega
    have hmem : l.getD i 0 ∈ l := by
      rw [List.getD_eq_getElem?_getD, List.getElem?_eq_getElem hlt]
      exact List.getElem_mem hlt
    obtain ⟨d1, d2, d3⟩ := hd _ hmem
    obtain ⟨a1, a2⟩ := acc_step h0 h1 hb hb2 d1 d3
    have hsz : M.Sz 10000 n := szM' (acc_sz h0 h1) (by omega)
    unfold M.Sz at hsz
    have hna : n.natAbs = n.toNat := by omega
    rw [hna] at hsz
    have h65 := L65_spec (l := M.lim n.toNat) (f := b) (c := l.getD i 0) (M.Wf_lim _) (by omega) (by omega) (by omega) d1 (by omega)
    rw [M.val_lim, show ((n.toNat : Nat) : Int) = n by omega] at h65
    rw [drop_at hlt]
    have ih := S25_15_spec (pre := pre) (f := f) hb hb2 l hd hl m (i + 1) (n * b + l.getD i 0) (by omega) (by omega) a1 a2
    refine (limL_go ?_).trans ih
    rw [S25_15_eq, if_pos (decide_eq_true (by omega)), if_pos (by omega), if_pos (by omega), Int.toNat_natCast, h65, wi (n := (i : Int) + 1) (by omega) (by omega)]
    rfl

/-- The end of the program's Literal. -/
noncomputable def end25 (pre : List UInt8) (b f : Int) (s : List UInt8) : Option rs25.den :=
  (L64 ((pre, b, f), s, ())).bind fun y_1 =>
    if (!y_1.1.2.1) = true then some (([], 19, ()), ())
    else
      (Lg25_15 (((), (), y_1.1.1, (↑(List.length y_1.1.1) : Int), 0, ()), (pre, b, f, ()), (false, [], ()), ())).bind
        fun y => (L66 ((y.2.1.1, y.2.1.2.1), ())).bind fun y => some ((y.1.1, y.1.2.1, ()), ())

theorem end25_spec {pre : List UInt8} {b f : Int} (h : okB f b) {s : List UInt8} (hs : s.length ≤ 500) :
    end25 pre b f s = some ((if pre = [] ∧ s ≠ [48] ∧ s.getD 0 0 = 48 then ([], 19, ()) else litZ b s), ()) := by
  obtain ⟨hb, hb2⟩ := okB_range h
  unfold end25 litZ
  rw [L64_spec h hs]
  simp only [Option.bind_some]
  cases hd : digsF b s 95 with
  | none =>
    refine (if_pos rfl).trans ?_
    split <;> rfl
  | some q =>
    obtain ⟨l, e⟩ := q
    simp only
    by_cases he : e = 95
    · subst he
      refine (if_pos rfl).trans ?_
      rw [if_pos rfl]
      split <;> rfl
    · have he' : (e == 95) = false := by rw [beq_eq_false_iff_ne]; exact he
      rw [he', if_neg he]
      simp only [Bool.not_false, Bool.true_and]
      by_cases hg : pre = [] ∧ s ≠ [48] ∧ s.getD 0 0 = 48
      · rw [if_pos hg]
        obtain ⟨g1, g2, g3⟩ := hg
        rw [if_pos]
        rw [g1, g3, show (s == [48]) = false from by rw [beq_eq_false_iff_ne]; exact g2]
        rfl
      · rw [if_neg hg, if_neg]
        · obtain ⟨q1, q2⟩ := digsF_range hd
          have h15 := S25_15_spec (pre := pre) (f := f) hb hb2 l q2 (by omega) _ 0 0 rfl (Nat.zero_le _) (by decide) (by decide)
          rw [List.drop_zero, show M.lim (Int.toNat 0) = [] from M.lim_zero] at h15
          have h15 : Lg25_15 (((), (), l, (l.length : Int), 0, ()), (pre, b, f, ()), (false, [], ()), ()) = _ := h15
          rw [h15]
          simp only [Option.bind_some]
          obtain ⟨v1, v2⟩ := fv_acc hb hb2 l 0 0 q2 (by decide) (by decide)
          have hz : M.zl (fv b l 0) = (false, M.lim (fv b l 0).toNat) := by
            unfold M.zl
            rw [decide_eq_false (by omega), show (fv b l 0).natAbs = (fv b l 0).toNat by omega]
          have h66 := L66_spec (z := fv b l 0) (szM' (acc_sz v1 v2) (by omega))
          rw [hz] at h66
          exact (congrArg (fun q => Option.bind q _) h66).trans rfl
        · intro hcon
          apply hg
          rw [Bool.not_eq_true', Bool.or_eq_false_iff, Bool.or_eq_false_iff] at hcon
          obtain ⟨c1, c2, c3⟩ := hcon
          refine ⟨?_, ?_, ?_⟩
          · simpa using c1
          · simpa using c2
          · simpa using c3

theorem L63_spec (s pre : List UInt8) : L63 (s, pre, ()) = some ((decide (s.take pre.length = pre), ()), ()) := by
  have h100 : L100 (s, pre, ()) = some ((decide (s.take pre.length = pre), ()), ()) := by
    show F100 (s, pre, ()) = _
    rw [F100_eq]
    by_cases h : pre.length ≤ s.length
    · rw [if_pos (decide_eq_true (by omega)), if_pos (by omega), Int.toNat_natCast, show (s.take pre.length == pre) = decide (s.take pre.length = pre) from Bool.eq_iff_iff.2 (by rw [beq_iff_eq, decide_eq_true_eq])]
    · rw [if_neg (by rw [decide_eq_true_eq]; omega), decide_eq_false]
      intro e
      have := congrArg List.length e
      rw [List.length_take] at this
      omega
  show F63 L100 (s, pre, ()) = _
  rw [F63_eq, h100]
  rfl

abbrev TB25 : (List UInt8 × Int × Int) × (List UInt8 × Int × Int) × (List UInt8 × Int × Int) × List UInt8 × Int × Int := (([48, 120], 16, 200), ([48, 111], 8, 201), ([48, 98], 2, 201), [], 10, 201)

theorem S25_r0 (F63 : (SV.denL ps63) → Option (rs63).den) (s c : List UInt8) (x y : Int) : S25_5 F63 ((s, (), TB25, 0, ()), ((c, x, y, ()), ())) = (
    (F63 (s, [48, 120], ())).bind fun q => if q.1.1 = true then some (.inr ((s, (), ()), (([48, 120], 16, 200, ()), ()))) else some (.inl ((s, (), TB25, 1, ()), ((c, x, y, ()), ()))) : Option (sh25_5.den ⊕ denX w25_5)) := by kernel_rfl
theorem S25_r1 (F63 : (SV.denL ps63) → Option (rs63).den) (s c : List UInt8) (x y : Int) : S25_5 F63 ((s, (), TB25, 1, ()), ((c, x, y, ()), ())) = (
    (F63 (s, [48, 111], ())).bind fun q => if q.1.1 = true then some (.inr ((s, (), ()), (([48, 111], 8, 201, ()), ()))) else some (.inl ((s, (), TB25, 2, ()), ((c, x, y, ()), ()))) : Option (sh25_5.den ⊕ denX w25_5)) := by kernel_rfl
theorem S25_r2 (F63 : (SV.denL ps63) → Option (rs63).den) (s c : List UInt8) (x y : Int) : S25_5 F63 ((s, (), TB25, 2, ()), ((c, x, y, ()), ())) = (
    (F63 (s, [48, 98], ())).bind fun q => if q.1.1 = true then some (.inr ((s, (), ()), (([48, 98], 2, 201, ()), ()))) else some (.inl ((s, (), TB25, 3, ()), ((c, x, y, ()), ()))) : Option (sh25_5.den ⊕ denX w25_5)) := by kernel_rfl
theorem S25_r3 (F63 : (SV.denL ps63) → Option (rs63).den) (s c : List UInt8) (x y : Int) : S25_5 F63 ((s, (), TB25, 3, ()), ((c, x, y, ()), ())) = (
    (F63 (s, [], ())).bind fun q => if q.1.1 = true then some (.inr ((s, (), ()), (([], 10, 201, ()), ()))) else some (.inl ((s, (), TB25, 4, ()), ((c, x, y, ()), ()))) : Option (sh25_5.den ⊕ denX w25_5)) := by kernel_rfl

theorem g25_spec (s : List UInt8) : limL (S25_5 L63) ((s, (), TB25, 0, ()), (([], 0, 0, ()), ())) = some ((s, (), ()), (
    (if s.take 2 = [48, 120] then ([48, 120], 16, 200, ()) else if s.take 2 = [48, 111] then ([48, 111], 8, 201, ()) else if s.take 2 = [48, 98] then ([48, 98], 2, 201, ()) else ([], 10, 201, ())), ())) := by
  have h0 := S25_r0 L63 s [] 0 0
  have h1 := S25_r1 L63 s [] 0 0
  have h2 := S25_r2 L63 s [] 0 0
  have h3 := S25_r3 L63 s [] 0 0
  rw [L63_spec] at h0 h1 h2 h3
  simp only [Option.bind_some, List.length_cons, List.length_nil, Nat.zero_add, Nat.reduceAdd] at h0 h1 h2 h3
  by_cases c0 : s.take 2 = [48, 120]
  · rw [if_pos (decide_eq_true c0)] at h0
    rw [if_pos c0]
    exact limL_end h0
  · rw [if_neg (by rw [decide_eq_true_eq]; exact c0)] at h0
    rw [if_neg c0, limL_go h0]
    by_cases c1 : s.take 2 = [48, 111]
    · rw [if_pos (decide_eq_true c1)] at h1
      rw [if_pos c1]
      exact limL_end h1
    · rw [if_neg (by rw [decide_eq_true_eq]; exact c1)] at h1
      rw [if_neg c1, limL_go h1]
      by_cases c2 : s.take 2 = [48, 98]
      · rw [if_pos (decide_eq_true c2)] at h2
        rw [if_pos c2]
        exact limL_end h2
      · rw [if_neg (by rw [decide_eq_true_eq]; exact c2)] at h2
        rw [if_neg c2, limL_go h2]
        rw [if_pos (by simp)] at h3
        exact limL_end h3

theorem take2_len {s : List UInt8} {a b : UInt8} (h : s.take 2 = [a, b]) : 2 ≤ s.length := by
  have := congrArg List.length h
  rw [List.length_take] at this
  simp at this
  omega

theorem L25_spec (s : List UInt8) : L25 (s, ()) = some ((LIT s), ()) := by
  show F25 L64 L66 Lg25_5 Lg25_15 (s, ()) = _
  rw [F25_eq]
  unfold LIT
  by_cases h5 : 500 < s.length
  · rw [if_pos (decide_eq_true (by omega)), if_pos h5]
  · rw [if_neg (by rw [decide_eq_true_eq]; omega), if_neg h5]
    refine (congrArg (fun q => Option.bind q _) (g25_spec s)).trans ?_
    simp only [Option.bind_some]
    have hfin : ∀ (pre : List UInt8) (b f : Int), okB f b → pre.length ≤ s.length →
        (if ((pre.length : Nat) : Int) ≤ ((s.length : Nat) : Int) then
          if ((s.length : Nat) : Int) ≤ ((s.length : Nat) : Int) then end25 pre b f (List.drop (Int.toNat ((pre.length : Nat) : Int)) s)
          else none
        else none) = some ((if pre = [] ∧ s.drop pre.length ≠ [48] ∧ (s.drop pre.length).getD 0 0 = 48 then ([], 19, ()) else litZ b (s.drop pre.length)), ()) := by
      intro pre b f h hp
      rw [if_pos (by omega), if_pos (by omega), Int.toNat_natCast, end25_spec h (by rw [List.length_drop]; omega)]
    by_cases c0 : s.take 2 = [48, 120]
    · rw [if_pos c0, if_pos c0]
      refine (hfin [48, 120] 16 200 (.inl ⟨rfl, rfl⟩) (take2_len c0)).trans ?_
      rw [if_neg (by simp)]
      rfl
    · rw [if_neg c0, if_neg c0]
      by_cases c1 : s.take 2 = [48, 111]
      · rw [if_pos c1, if_pos c1]
        refine (hfin [48, 111] 8 201 (.inr ⟨rfl, .inl rfl⟩) (take2_len c1)).trans ?_
        rw [if_neg (by simp)]
        rfl
      · rw [if_neg c1, if_neg c1]
        by_cases c2 : s.take 2 = [48, 98]
        · rw [if_pos c2, if_pos c2]
          refine (hfin [48, 98] 2 201 (.inr ⟨rfl, .inr (.inl rfl)⟩) (take2_len c2)).trans ?_
          rw [if_neg (by simp)]
          rfl
        · rw [if_neg c2, if_neg c2]
          refine (hfin [] 10 201 (.inr ⟨rfl, .inr (.inr rfl)⟩) (Nat.zero_le _)).trans ?_
          rw [List.length_nil, List.drop_zero]
          congr 2
          have hiff : (([] : List UInt8) = [] ∧ s ≠ [48] ∧ s.getD 0 0 = 48) ↔ (1 < s.length ∧ s.getD 0 0 = 48) := by
            constructor
            · rintro ⟨_, h1, h2⟩
              refine ⟨?_, h2⟩
              match s, h1, h2 with
              | [], _, h2 => exact absurd h2 (by decide)
              | [c], h1, h2 => exact absurd (by rw [show c = 48 from h2]) h1
              | _ :: _ :: _, _, _ => simp
            · rintro ⟨h1, h2⟩
              exact ⟨rfl, fun e => by rw [e] at h1; simp at h1, h2⟩
          by_cases hg : 1 < s.length ∧ s.getD 0 0 = 48
          · rw [if_pos hg, if_pos (hiff.2 hg)]
          · rw [if_neg hg, if_neg (fun q => hg (hiff.1 q))]

theorem law5_of {A : (SV.denL ps10) → Option (rs10).den} (hA : A () = some ((true, ()), ())) (s : List UInt8) : F5 L9 A L25 L26 (s, ()) = some ((true, ()), ()) := by
  rw [F5_eq, L9_spec (by simp), hA]
  simp only [Option.bind_some]
  by_cases hsh : shortB [s] = true
  · rw [hsh, if_neg (by decide), L25_spec, L26_spec]
    simp only [Option.bind_some, beq_self_eq_true, if_true]
  · rw [Bool.eq_false_iff.2 hsh]
    rfl

noncomputable def law5 : (SV.denL ps5) → Option (rs5).den := F5 L9 K10 L25 L26
theorem law5_ok : CallOK Tryz.prog 5 (mkCall ps5 rs5 law5) := call5 okK10 okL25 okL26 okL9
theorem law5_true (s : List UInt8) : law5 (s, ()) = some ((true, ()), ()) := law5_of K10_val s
end Go.Proofs.Rf
/- What the listed variables give: the sorts of literals, the powers of ten. -/
namespace Go.Proofs.Rf
open Go Go.ChangeShapes Go.WideShapes Go.ChangeAt Go.RowKit

abbrev laid01 : List (String × DataW Unit) := Go.Proofs.YtofmlmonkfocnaaGreatDoor.Rows.wideTypesRow.laid

theorem cells105 : Tryz.prog.cellsOf 105 = 3 := by kernel_rfl
theorem cells106 : Tryz.prog.cellsOf 106 = 12 := by kernel_rfl
theorem cells9 : Tryz.prog.cellsOf 9 = 1 := by kernel_rfl
theorem cells102 : Tryz.prog.cellsOf 102 = 1 := by kernel_rfl
theorem cells103 : Tryz.prog.cellsOf 103 = 1 := by kernel_rfl
theorem cells36 : Tryz.prog.cellsOf 36 = 1 := by kernel_rfl
theorem cells204 : Tryz.prog.cellsOf 204 = 20 := by kernel_rfl

theorem list12 {A : Type} {l : List A} (h : l.length = 12) : ∃ a b c d e f g i j k m n, l = [a, b, c, d, e, f, g, i, j, k, m, n] := by
  match l, h with
  | [a, b, c, d, e, f, g, i, j, k, m, n], _ => exact ⟨a, b, c, d, e, f, g, i, j, k, m, n, rfl⟩

theorem list3 {A : Type} {l : List A} (h : l.length = 3) : ∃ a b c, l = [a, b, c] := by
  match l, h with
  | [a, b, c], _ => exact ⟨a, b, c, rfl⟩

theorem lit_str {s : ByteArray} {z : List UInt8} {H : Type} (h : (DataW.lit (.string s.data.toList) : DataW H) = .lit (.string z)) : s = ⟨z.toArray⟩ := by
  injection h with h
  injection h with h
  cases s with
  | mk d =>
    congr 1
    apply Array.ext'
    simpa using h

set_option maxRecDepth 100000 in
/-- One sort of literals. -/
theorem sort_elem {W : World} {fuel : Nat} {c0 c1 c2 : Value} {s : List UInt8} {n : Int} {b : UInt8} {r : List UInt8} {q : List MemPlace} {f0 : FuncId}
    (hone : ((List.range Tryz.prog.funcs.size).filter fun f => (Tryz.prog.funcs[f]?).any (·.name.toUTF8.data.toList == b :: r)) = [f0])
    (h : DataW.trod (funcToken Tryz.prog) Tryz.prog W 0 (fun _ => true) true fuel 105 [c0, c1, c2] = some (.agg [.lit (.string s), .lit (.int .u32 n), .held (b :: r)], q)) :
    c0 = .string ⟨s.toArray⟩ ∧ c1 = .int .u32 n ∧ c2 = .func (.func f0) #[] #[] := by
  obtain ⟨xs, m, _, hx, _, hn, hel⟩ := DataW.trod_struct Tryz.underlying105 h
  obtain ⟨y0, y1, y2, rfl⟩ := list3 (by simpa using hn)
  have e0 := hel 0 _ rfl
  have e1 := hel 1 _ rfl
  have e2 := hel 2 _ rfl
  have e0 : DataW.trod (funcToken Tryz.prog) Tryz.prog W 0 (fun _ => true) true m 9 [c0] = some y0 := by
    have this : DataW.trod (funcToken Tryz.prog) Tryz.prog W 0 (fun _ => true) true m 9 (List.take (Tryz.prog.cellsOf 9) (List.drop 0 [c0, c1, c2])) = some y0 := e0
    rw [cells9] at this
    exact this
  have e1 : DataW.trod (funcToken Tryz.prog) Tryz.prog W 0 (fun _ => true) true m 102 [c1] = some y1 := by
    have this : DataW.trod (funcToken Tryz.prog) Tryz.prog W 0 (fun _ => true) true m 102 (List.take (Tryz.prog.cellsOf 102) (List.drop 1 [c0, c1, c2])) = some y1 := e1
    rw [cells102] at this
    exact this
  have e2 : DataW.trod (funcToken Tryz.prog) Tryz.prog W 0 (fun _ => true) true m 103 [c2] = some y2 := by
    have this : DataW.trod (funcToken Tryz.prog) Tryz.prog W 0 (fun _ => true) true m 103 (List.take (Tryz.prog.cellsOf 103) (List.drop 2 [c0, c1, c2])) = some y2 := e2
    rw [cells103] at this
    exact this
  have hx1 := congrArg Prod.fst hx
  simp only [List.map_cons, List.map_nil] at hx1
  injection hx1 with hx1
  injection hx1 with a0 hx1
  injection hx1 with a1 hx1
  injection hx1 with a2 _
  obtain ⟨y0, z0⟩ := y0
  obtain ⟨y1, z1⟩ := y1
  obtain ⟨y2, z2⟩ := y2
  simp only at a0 a1 a2
  subst a0 a1 a2
  obtain ⟨t, hc0, hd0, _⟩ := DataW.trod_string Tryz.underlying9 e0
  obtain ⟨k, hc1, hd1, _⟩ := DataW.trod_int Tryz.underlying102 e1
  injection hc0 with hc0 _
  injection hc1 with hc1 _
  have hd0 := congrArg Prod.fst hd0
  have hd1 := congrArg Prod.fst hd1
  simp only at hd0 hd1
  injection hd1 with hd1
  injection hd1 with _ hd1
  exact ⟨by rw [hc0, lit_str hd0.symm], by rw [hc1, hd1], Go.func_of_trod (f0 := f0) Tryz.underlying103 hone e2⟩

/-- A variable's cells, as its block holds them. -/
theorem var_block {W : World} {name : String} {g : Nat} {us : List Value} (hg : Tryz.prog.globalNamed name = some g) (hv : W.var? Tryz.prog name = some us.toArray) : ∃ e fz, W.heap[g]? = some (.cells us.toArray e fz) := by
  unfold World.var? at hv
  rw [hg] at hv
  simp only [Option.bind_some] at hv
  split at hv
  · rename_i cs' e' fz hh
    injection hv with hv
    subst hv
    exact ⟨e', fz, hh⟩
  · cases hv

theorem radix_var {W : World} (h : laidMetH Tryz.prog laid01 W) : W.var? Tryz.prog "bowline/wide.radixes" = some (List.toArray [.string ⟨#[48, 120]⟩, .int .u32 16, .func (.func 199) #[] #[], .string ⟨#[48, 111]⟩, .int .u32 8, .func (.func 200) #[] #[], .string ⟨#[48, 98]⟩, .int .u32 2, .func (.func 200) #[] #[], .string ⟨#[]⟩, .int .u32 10, .func (.func 200) #[] #[]]) := by
  obtain ⟨g, t, cs, fuel, p, hg, ht, hv, hd⟩ := h.funcs (n := "bowline/wide.radixes") (d := _)
    (List.mem_cons_of_mem _ (List.mem_cons_of_mem _ (List.mem_cons_of_mem _ (List.mem_cons_of_mem _ (List.mem_cons_of_mem _ (List.mem_cons_of_mem _ (List.mem_cons_self ..)))))))
  obtain rfl := Option.some.inj ((show Tryz.prog.globalNamed "bowline/wide.radixes" = some 0 by kernel_rfl).symm.trans hg)
  obtain rfl := Option.some.inj ((show (Tryz.prog.globals[0]?).map (·.type) = some 106 by kernel_rfl).symm.trans ht)
  have hd' : DataW.trod (funcToken Tryz.prog) Tryz.prog W 0 (fun _ => true) true fuel 106 cs.toList = some (.agg [.agg [.lit (.string [48, 120]), .lit (.int .u32 16), .held [98, 111, 119, 108, 105, 110, 101, 47, 119, 105, 100, 101, 46, 104, 101, 120, 97, 100, 101, 99, 105, 109, 97, 108]], .agg [.lit (.string [48, 111]), .lit (.int .u32 8), .held [98, 111, 119, 108, 105, 110, 101, 47, 119, 105, 100, 101, 46, 100, 101, 99, 105, 109, 97, 108]], .agg [.lit (.string [48, 98]), .lit (.int .u32 2), .held [98, 111, 119, 108, 105, 110, 101, 47, 119, 105, 100, 101, 46, 100, 101, 99, 105, 109, 97, 108]], .agg [.lit (.string []), .lit (.int .u32 10), .held [98, 111, 119, 108, 105, 110, 101, 47, 119, 105, 100, 101, 46, 100, 101, 99, 105, 109, 97, 108]]], p) := hd
  obtain ⟨_, _, _, _, hlen, _, _⟩ := DataW.trod_array Tryz.underlying106 hd'
  rw [cells106] at hlen
  obtain ⟨a0, a1, a2, a3, a4, a5, a6, a7, a8, a9, a10, a11, hcs⟩ := list12 hlen
  have el := fun i hi => Go.Lib.array_elem Tryz.underlying106 hd' i hi
  rw [hcs, cells105] at el
  obtain ⟨f0, d0, q0, hd0, h0⟩ := el 0 (by decide)
  obtain ⟨f1, d1, q1, hd1, h1⟩ := el 1 (by decide)
  obtain ⟨f2, d2, q2, hd2, h2⟩ := el 2 (by decide)
  obtain ⟨f3, d3, q3, hd3, h3⟩ := el 3 (by decide)
  obtain rfl := Option.some.inj hd0
  obtain rfl := Option.some.inj hd1
  obtain rfl := Option.some.inj hd2
  obtain rfl := Option.some.inj hd3
  obtain ⟨r0, r1, r2⟩ := sort_elem (f0 := 199) (by kernel_rfl) h0
  obtain ⟨r3, r4, r5⟩ := sort_elem (f0 := 200) (by kernel_rfl) h1
  obtain ⟨r6, r7, r8⟩ := sort_elem (f0 := 200) (by kernel_rfl) h2
  obtain ⟨r9, r10, r11⟩ := sort_elem (f0 := 200) (by kernel_rfl) h3
  rw [hv]
  congr 1
  apply Array.ext'
  rw [hcs, r0, r1, r2, r3, r4, r5, r6, r7, r8, r9, r10, r11]

theorem pow_var {W : World} (h : laidMetH Tryz.prog laid01 W) : W.var? Tryz.prog "internal/strconv.uint64pow10" = some (Lib.pow10Tab.map fun z => Value.int .u64 z).toArray := by
  have h1 := (laidMetH_iff.1 h).1
  obtain ⟨g, t, cs, fuel, p, hg, ht, hv, hd⟩ := Go.Lib.laidMet.reads h1 (n := "internal/strconv.uint64pow10") (d := _) (List.mem_filter.2 ⟨List.mem_cons_of_mem _ (List.mem_cons_of_mem _ (List.mem_cons_self ..)), rfl⟩)
  obtain rfl := Option.some.inj ((show Tryz.prog.globalNamed "internal/strconv.uint64pow10" = some 1 by kernel_rfl).symm.trans hg)
  obtain rfl := Option.some.inj ((show (Tryz.prog.globals[1]?).map (·.type) = some 204 by kernel_rfl).symm.trans ht)
  have hd' : DataW.trod (fun _ => ()) Tryz.prog W 0 (fun _ => true) false fuel 204 cs.toList = some (Lib.tabData .u64 Lib.pow10Tab, p) := hd
  have hcs := Go.Lib.cells_of_tab Tryz.underlying204 Tryz.underlying36 cells36 cells204 hd'
  rw [hv]
  congr 1
  apply Array.ext'
  rw [hcs]

theorem gl01 {W : World} (h : laidMetH Tryz.prog laid01 W) : GlOK W (fun b => b < W.heap.size) := by
  obtain ⟨e0, fz0, h0⟩ := var_block (g := 0) (by kernel_rfl) (radix_var h)
  have hp := pow_var h
  obtain ⟨e1, fz1, h1⟩ := var_block (g := 1) (by kernel_rfl) hp
  intro g us hgl
  unfold glob at hgl
  split at hgl
  · injection hgl with hgl
    subst hgl
    exact ⟨(Array.getElem?_eq_some_iff.1 h0).1, by simp, e0, fz0, h0⟩
  · injection hgl with hgl
    subst hgl
    exact ⟨(Array.getElem?_eq_some_iff.1 h1).1, by simp, e1, fz1, h1⟩
  · cases hgl
end Go.Proofs.Rf
/- A start in which the listed variables are laid. -/
namespace Go.Proofs.Rf
open Go Go.ChangeShapes Go.WideShapes Go.ChangeAt Go.RowKit

noncomputable def door01 (os : Os) : World := (World.doorLaid Tryz.prog 81 os).layVars Tryz.prog (laid01.filter fun x => x.2.handleName?.isNone)
theorem door01_os (os : Os) : (door01 os).os = os := World.layVars_os _ _ _

theorem door01_fits (os : Os) : (World.doorLaid Tryz.prog 81 os).layFits Tryz.prog (laid01.filter fun x => x.2.handleName?.isNone) [] = true := by kernel_rfl
theorem door01_ifaces (os : Os) : (World.doorLaid Tryz.prog 81 os).layIfaces Tryz.prog (laid01.filter fun x => x.2.handleName?.isNone) (door01 os) = true := by kernel_rfl

theorem door01_plain (os : Os) : laidMet Tryz.prog (laid01.filter fun x => x.2.handleName?.isNone) (door01 os) := by
  have hf := door01_fits os
  have hi := door01_ifaces os
  unfold door01 at hi ⊢
  generalize (laid01.filter fun x => x.2.handleName?.isNone) = laid at *
  have e1 : (laid.filter fun x => (laid.map (·.1)).contains x.1) = laid := List.filter_eq_self.2 fun x hx => List.contains_iff_mem.2 (List.mem_map.2 ⟨x, hx, rfl⟩)
  have e2 : (laid.filter fun x => !(laid.map (·.1)).contains x.1) = [] := List.filter_eq_nil_iff.2 fun x hx => by rw [List.contains_iff_mem.2 (List.mem_map.2 ⟨x, hx, rfl⟩)]; simp
  exact laidMet_layVars (w0 := World.doorLaid Tryz.prog 81 os) (laid.map (·.1)) [] (by rw [e1]) (by rw [e1]; exact hf) (by rw [e1]; exact hi) (by rw [e2]; exact LaidIn.none)

theorem door01_met (os : Os) (args : Array Value) : laidMetH Tryz.prog laid01 ((door01 os).forCall (fun _ _ => 0) ⟨#[], args, []⟩).memory :=
  laidMetH_of_parts3 (fuel := 8) ((door01_plain os).of_heap (by simp [World.memory, World.forCall, Input.heap])) (by kernel_rfl) (by kernel_rfl)

theorem door01_shaped (os : Os) (args : Array Value) : ((door01 os).forCall (fun _ _ => 0) ⟨#[], args, []⟩).Shaped Tryz.prog := World.shaped_of_RefB (by kernel_rfl) (by kernel_rfl)
end Go.Proofs.Rf
