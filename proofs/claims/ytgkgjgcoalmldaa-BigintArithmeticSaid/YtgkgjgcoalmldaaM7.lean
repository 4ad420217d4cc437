/- Texts put together: R8, R9, R10, R11, R12, Gg, Gh, Z0. -/
import Derived.Test.YtgkgjgcoalmldaaM6
import Derived.Below
import Derived.WalkKit
import Derived.ProofKit
import Derived.OpenShut
import Derived.ChangeOld
import Derived.ChangeArms
import Derived.Carry
/- A long division, whole. -/
namespace Go.Proofs.Rf
open Go Go.RowKit

/-- The rounds of a long division. -/
theorem Lg78_14_spec {sh : Int} {u v : List Int} {n m : Nat} (wu : Wf u) (wv : Wf v) (hn : 2 ≤ n) (hnv : v.length = n) (hm : m + n = u.length) (hu : u.length < 1000000000) (htop : 2147483648 ≤ v.getD (n - 1) 0) (hlt : val (u.drop m) < val v) :
    ∃ (r q : List Int), Lg78_14 ((sh, v, (), (n : Int), (), (m : Int) - 1, ()), (u, List.replicate m 0, ())) = some ((sh, (), (), ()), (r, q, ())) ∧ Wf r ∧ Wf q ∧ r.length = u.length ∧ q.length = m ∧ val r < val v ∧ val r + val v * val q = val u := by
  obtain ⟨z, h1, r, q, rfl, h2⟩ := limL_ind (f := S78_14 L106 Lg78_18 Lg78_24 Lg78_35) (fun x => (x.1.2.2.2.2.2.1 + 1).toNat)
    (fun x => ∃ (k : Nat) (r q : List Int), x = ((sh, v, (), (n : Int), (), (k : Int) - 1, ()), (r, q, ())) ∧ k ≤ m ∧ Wf r ∧ Wf q ∧ r.length = u.length ∧ q.length = m ∧ val (r.drop k) < val v ∧ val r + val v * val q = val u ∧ ∀ i, i < k → q.getD i 0 = 0)
    (fun z => ∃ (r q : List Int), z = ((sh, (), (), ()), (r, q, ())) ∧ Wf r ∧ Wf q ∧ r.length = u.length ∧ q.length = m ∧ val r < val v ∧ val r + val v * val q = val u) (by
    rintro x ⟨k, r, q, rfl, hk, wr, wq, hr, hq, hl, hv, hz⟩
    rcases Nat.eq_zero_or_pos k with rfl | hp
    · right
      refine ⟨_, ?_, r, q, rfl, wr, wq, hr, hq, by rw [List.drop_zero] at hl; exact hl, hv⟩
      rw [S78_14_eq]
      rfl
    · left
      obtain ⟨k, rfl⟩ : ∃ k', k = k' + 1 := ⟨k - 1, by omega⟩
      obtain ⟨g, r', h3, hg, hg1, wr', hr', hv', hl'⟩ := S78_14_step (sh := sh) (q := q) (j := k) wr wv hn hnv (by omega) (by omega) (by omega) htop hl
      rw [show (k : Int) = ((k + 1 : Nat) : Int) - 1 by omega] at h3
      refine ⟨_, h3, ⟨k, r', q.set k g, by rw [show ((k + 1 : Nat) : Int) - 1 - 1 = (k : Int) - 1 by omega], by omega, wr', wq.set k hg hg1, by omega, by rw [List.length_set]; exact hq, hl', ?_, fun i hi => ?_⟩, by simp only; omega⟩
      · rw [val_set (by omega), hz k (by omega), hv']
        generalize (4294967296 : Int) ^ k = A at *
        grind
      · rw [getD_set, if_neg (by omega)]
        exact hz i (by omega)) ((sh, v, (), (n : Int), (), (m : Int) - 1, ()), (u, List.replicate m 0, ())) ⟨m, u, _, rfl, Nat.le_refl _, wu, Wf.replicate m, rfl, by simp, hlt, by rw [val_replicate]; simp, fun i _ => by rw [List.getD_eq_getElem?_getD, List.getElem?_replicate]; split <;> rfl⟩
  exact ⟨r, q, h1, h2⟩

theorem L105_spec {l : List Int} (hl : l.length ≤ 4294967296) : L105 (l, ()) = some (((), ()), (l, ())) := by
  show C105 (l, ()) = _
  unfold C105
  rw [if_pos (by simpa using hl)]

theorem Lg78_9_spec {a u v : List Int} {sh : Int} (h : a.length < u.length) : Lg78_9 ((a, sh, v, (), ()), (u, ())) = some ((sh, v, (), ()), (u, ())) := by
  obtain ⟨z, h1, rfl⟩ := limL_ind (f := S78_9) (fun _ => 0) (fun x => x = ((a, sh, v, (), ()), (u, ()))) (fun z => z = ((sh, v, (), ()), (u, ()))) (by
    rintro x rfl
    right
    refine ⟨_, ?_, rfl⟩
    rw [S78_9_eq, if_neg (by rw [decide_eq_true_eq]; omega)]) _ rfl
  exact h1

/-- Shifted so far that the highest bit is one. -/
theorem norm_top {b : Nat} (hb : b ≠ 0) : ∃ k s, (lim b).length = k + 1 ∧ (lim b).getD k 0 = ((b / 4294967296 ^ k : Nat) : Int) ∧ b / 4294967296 ^ k < 4294967296 ∧ 32 - (bl (b / 4294967296 ^ k) : Int) = (s : Nat) ∧ s < 32 ∧ (lim (b * 2 ^ s)).length = k + 1 ∧ 2147483648 ≤ (lim (b * 2 ^ s)).getD k 0 := by
  obtain ⟨k, h1, h2, h3, h4⟩ := lim_top hb
  have h5 := bl_le_of (k := 32) (x := b / 4294967296 ^ k) (by simpa using h4)
  have h6 := bl_pos h3
  obtain ⟨s, hs⟩ : ∃ s, s = 32 - bl (b / 4294967296 ^ k) := ⟨_, rfl⟩
  have h7 : bl b = bl (b / 4294967296 ^ k) + 32 * k := by
    have := bl_shift (x := b) (k := 32 * k) (by rw [← B_pow]; exact h3)
    rw [← B_pow] at this
    exact this
  have h8 := bl_lt b
  have h9 := bl_le hb
  have h10 : b * 2 ^ s < 2 ^ (32 * (k + 1)) := by
    rw [show 32 * (k + 1) = bl b + s by omega, Nat.pow_add]
    exact (Nat.mul_lt_mul_right (Nat.two_pow_pos s)).2 h8
  have h11 : 2 ^ (32 * k) * 2147483648 ≤ b * 2 ^ s := by
    have : 2 ^ (32 * k) * 2147483648 = 2 ^ (bl b - 1) * 2 ^ s := by
      rw [← Nat.pow_add, show bl b - 1 + s = 32 * k + 31 by omega, Nat.pow_add]
    rw [this]
    exact Nat.mul_le_mul_right _ h9
  have h12 : (lim (b * 2 ^ s)).length = k + 1 := by
    have q1 : (lim (b * 2 ^ s)).length ≤ k + 1 := lim_length_of (by rw [B_pow]; exact h10)
    have q2 : ¬ (lim (b * 2 ^ s)).length ≤ k := by
      rw [lim_length_iff, B_pow]
      have := Nat.two_pow_pos (32 * k)
      omega
    omega
  refine ⟨k, s, h1, h2, h4, by omega, by omega, h12, ?_⟩
  rw [limB]
  unfold lb
  have h13 : b * 2 ^ s / 2 ^ (32 * k) < 2 ^ 32 := by
    refine (Nat.div_lt_iff_lt_mul (Nat.two_pow_pos _)).2 ?_
    rw [← Nat.pow_add, show 32 + 32 * k = 32 * (k + 1) by omega]
    exact h10
  have h14 : 2147483648 ≤ b * 2 ^ s / 2 ^ (32 * k) := by
    refine (Nat.le_div_iff_mul_le (Nat.two_pow_pos _)).2 ?_
    rw [Nat.mul_comm]
    exact h11
  rw [Nat.mod_eq_of_lt h13]
  omega

/-- over. -/
theorem L78_spec {a b : Nat} (hb : b ≠ 0) (ha : (lim a).length < 100000) (hbl : (lim b).length < 100000) : L78 (lim a, lim b, ()) = some ((lim (a / b), lim (a % b), ()), ()) := by
  show F78 L58 L76 L77 L79 L96 L99 L100 L105 Lg78_9 Lg78_14 (lim a, lim b, ()) = _
  rw [F78_eq]
  obtain ⟨c, h79, hc, _⟩ := L79_spec (a := a) (b := b) (by omega) (by omega)
  rw [h79]
  simp only [Option.bind_some]
  by_cases hlt : a < b
  · have p : c < 0 := hc.2 hlt
    rw [if_pos (by rw [decide_eq_true_eq]; exact p), L105_spec (by omega), Nat.div_eq_of_lt hlt, Nat.mod_eq_of_lt hlt, lim_zero]
    rfl
  · have p : ¬ c < 0 := fun q => hlt (hc.1 q)
    rw [if_neg (by rw [decide_eq_true_eq]; exact p)]
    obtain ⟨k, s, h1, h2, h3, h4, h5, h6, h7⟩ := norm_top hb
    by_cases hk : k = 0
    · subst hk
      have q1 : (((lim b).length : Int) == 1) = true := by rw [h1]; rfl
      have q2 : (0 : Int) < ((lim b).length : Int) := by rw [h1]; decide
      have q3 : (lim b).getD 0 0 = (b : Int) := by
        rw [h2, Nat.pow_zero, Nat.div_one]
      have q4 : b < 4294967296 := by
        rw [Nat.pow_zero, Nat.div_one] at h3
        exact h3
      rw [if_pos q1, if_pos q2, q3, L99_spec (Wf_lim a) (by omega) (by omega) (by omega), val_lim]
      simp only [Option.bind_some]
      rw [← Int.natCast_emod, L58_spec (Int.natCast_nonneg _) (by have := Nat.mod_lt a (Nat.pos_of_ne_zero hb); omega), ← Int.natCast_ediv]
      rfl
    · have q1 : ¬ (((lim b).length : Int) == 1) = true := by
        rw [beq_iff_eq, h1]
        omega
      have e1 : IntKind.i64.wrap (((lim b).length : Int) - 1) = (k : Int) := by rw [wi (by omega) (by omega)]; omega
      have q2 : (0 : Int) ≤ (k : Int) := by omega
      have q3 : (k : Int) < ((lim b).length : Int) := by omega
      rw [if_neg q1, e1, if_pos q2, if_pos q3, Int.toNat_natCast, h2, L100_spec h3, h4]
      simp only [Option.bind_some]
      rw [L76_spec (a := b) (n := s) (by omega) (by omega)]
      simp only [Option.bind_some]
      rw [L76_spec (a := a) (n := s) (by omega) (by omega)]
      simp only [Option.bind_some]
      have hap : a ≤ a * 2 ^ s := Nat.le_mul_of_pos_right _ (Nat.two_pow_pos s)
      have hal := lim_length_mono hap
      have hau : (lim (a * 2 ^ s)).length ≤ (lim a).length + 1 := by
        refine lim_length_of ?_
        rw [B_pow]
        have h8 := lim_lt a
        rw [B_pow] at h8
        rw [show 32 * ((lim a).length + 1) = 32 * (lim a).length + 32 by omega, Nat.pow_add]
        exact Nat.mul_lt_mul_of_lt_of_le h8 (Nat.pow_le_pow_right (by decide) (by omega)) (Nat.two_pow_pos _)
      rw [L105_spec (by omega)]
      simp only [Option.bind_some]
      rw [if_pos (by omega), Lg78_9_spec (by simp; omega)]
      simp only [Option.bind_some, h6]
      have hbl2 : (lim b).length ≤ (lim a).length := lim_length_mono (by omega)
      obtain ⟨m, hm⟩ : ∃ m, m = (lim (a * 2 ^ s)).length - k := ⟨_, rfl⟩
      have e2 : IntKind.i64.wrap (((lim (a * 2 ^ s) ++ [0]).length : Int) - ((k + 1 : Nat) : Int)) = (m : Int) := by
        rw [List.length_append, List.length_cons, List.length_nil, wi (by omega) (by omega)]
        omega
      have e3 : IntKind.i64.wrap ((m : Int) - 1) = (m : Int) - 1 := wi (by omega) (by omega)
      have q4 : (0 : Int) ≤ (m : Int) := by omega
      have q5 : (m : Int) ≤ ((4294967296 : Nat) : Int) := by omega
      simp only [e2, e3, q4, q5, Int.le_refl, if_true, Int.toNat_natCast]
      have wu : Wf (lim (a * 2 ^ s) ++ [0]) := (Wf_lim _).append (Wf.cons (by decide) (by decide) Wf.nil)
      have hvu : val (lim (a * 2 ^ s) ++ [0]) = ((a * 2 ^ s : Nat) : Int) := by
        rw [val_append, val_lim]
        simp [val]
      have hvv : val (lim (b * 2 ^ s)) = ((b * 2 ^ s : Nat) : Int) := val_lim _
      have hlen : (lim (a * 2 ^ s) ++ [0]).length = (lim (a * 2 ^ s)).length + 1 := by simp
      have hdrop : val ((lim (a * 2 ^ s) ++ [0]).drop m) < val (lim (b * 2 ^ s)) := by
        have hml : m ≤ (lim (a * 2 ^ s)).length := by omega
        rw [List.drop_append_of_le_length hml, val_append]
        have h9 : val ((lim (a * 2 ^ s)).drop m) < 4294967296 ^ ((lim (a * 2 ^ s)).drop m).length := val_lt ((Wf_lim _).drop m)
        rw [List.length_drop, show (lim (a * 2 ^ s)).length - m = k by omega] at h9
        simp only [val, Int.mul_zero, Int.add_zero]
        have h10 := val_split (lim (b * 2 ^ s)) k (by omega)
        rw [drop_at (show k < (lim (b * 2 ^ s)).length by omega)] at h10
        simp only [val] at h10
        have h11 := val_nonneg ((Wf_lim (b * 2 ^ s)).take k)
        have h12 := val_nonneg ((Wf_lim (b * 2 ^ s)).drop (k + 1))
        have h13 : (4294967296 : Int) ^ k * 1 ≤ 4294967296 ^ k * ((lim (b * 2 ^ s)).getD k 0 + 4294967296 * val ((lim (b * 2 ^ s)).drop (k + 1))) := Int.mul_le_mul_of_nonneg_left (by omega) (Int.le_of_lt (powB_pos k))
        omega
      obtain ⟨r, q, h14, wr, wq, hr, hq, hv1, hv2⟩ := Lg78_14_spec (sh := (s : Int)) (n := k + 1) (m := m) wu (Wf_lim (b * 2 ^ s)) (by omega) h6 (by omega) (by omega) (by rw [show k + 1 - 1 = k by omega]; exact h7) hdrop
      rw [h14]
      simp only [Option.bind_some]
      rw [L96_spec wr (by omega)]
      simp only [Option.bind_some]
      rw [hvu, hvv] at hv2
      rw [hvv] at hv1
      have hr0 := val_nonneg wr
      have hps := Nat.two_pow_pos s
      have hdm := Int.ediv_emod_unique (a := ((a * 2 ^ s : Nat) : Int)) (q := val q) (r := val r) (b := ((b * 2 ^ s : Nat) : Int)) (by have := Nat.mul_pos (Nat.pos_of_ne_zero hb) hps; omega)
      obtain ⟨hq1, hr1⟩ := hdm.2 ⟨hv2, hr0, hv1⟩
      rw [← Int.natCast_ediv, Nat.mul_div_mul_right _ _ hps] at hq1
      rw [← Int.natCast_emod, Nat.mul_mod_mul_right] at hr1
      rw [← hr1, Int.toNat_natCast]
      have hrl : (lim (a % b * 2 ^ s)).length < 1000000 := by
        have h15 : a % b * 2 ^ s ≤ a * 2 ^ s := Nat.mul_le_mul_right _ (Nat.mod_le a b)
        have := lim_length_mono h15
        omega
      rw [L77_spec hrl (by omega), Nat.mul_div_cancel _ hps]
      simp only [Option.bind_some]
      rw [L96_spec wq (by omega), ← hq1, Int.toNat_natCast]
      rfl
end Go.Proofs.Rf
/- Signed numbers: sums, products, in both texts. -/
namespace Go.Proofs.Rf
open Go Go.RowKit

def sgn (neg : Bool) (n : Nat) : Int := if neg = true then -(n : Int) else (n : Int)

theorem sgn_natAbs (neg : Bool) (n : Nat) : (sgn neg n).natAbs = n := by
  unfold sgn
  cases neg <;> simp

theorem zl_sgn (neg : Bool) (n : Nat) : zl (sgn neg n) = (neg && decide (0 < (lim n).length), lim n) := by
  unfold zl
  rw [sgn_natAbs]
  congr 1
  unfold sgn
  cases neg
  · simp
  · simp only [if_true, Bool.true_and]
    rw [decide_eq_decide]
    constructor
    · intro h
      rcases Nat.eq_zero_or_pos (lim n).length with q | q
      · have := lim_eq_nil.1 (List.eq_nil_of_length_eq_zero q)
        omega
      · exact q
    · intro h
      have : n ≠ 0 := by
        rintro rfl
        rw [lim_zero] at h
        simp at h
      omega

theorem zl_1 (z : Int) : (zl z).1 = decide (z < 0) := rfl
theorem zl_2 (z : Int) : (zl z).2 = lim z.natAbs := rfl
theorem sgn_zl (z : Int) : sgn (decide (z < 0)) z.natAbs = z := by
  unfold sgn
  by_cases h : z < 0
  · rw [decide_eq_true h, if_pos rfl]; omega
  · rw [decide_eq_false h, if_neg (by decide)]; omega

/-- A number, if it is not too large. -/
def res (z : Int) : (Bool × List Int) × Int := if 200 < (lim z.natAbs).length then ((false, []), 4) else (zl z, 0)

theorem len_pos_int {l : List Int} : decide ((l.length : Int) > 0) = decide (0 < l.length) := by
  rw [decide_eq_decide]
  omega

theorem L51_gen {neg : Bool} {l : List Int} {n : Nat} (hw : Wf l) (hv : val l = (n : Int)) (hl : l.length < 4611686018427387904) : L51 (neg, l, ()) = some (((res (sgn neg n)).1, (res (sgn neg n)).2, ()), ()) := by
  show F51 L50 (neg, l, ()) = _
  rw [F51_eq, L50_spec hw hl, hv, Int.toNat_natCast]
  simp only [Option.bind_some]
  unfold res
  rw [sgn_natAbs]
  by_cases h : 200 < (lim n).length
  · have p : ((lim n).length : Int) > 200 := by omega
    rw [if_pos (by rw [decide_eq_true_eq]; exact p), if_pos h]
  · have p : ¬ ((lim n).length : Int) > 200 := by omega
    rw [if_neg (by rw [decide_eq_true_eq]; exact p), if_neg h, zl_sgn, len_pos_int]
    cases neg <;> rfl

theorem L51_lim {neg : Bool} {n : Nat} (hl : (lim n).length < 4611686018427387904) : L51 (neg, lim n, ()) = some (((res (sgn neg n)).1, (res (sgn neg n)).2, ()), ()) := L51_gen (Wf_lim n) (val_lim n) hl

theorem L97_spec {l : List Int} (hl : l.length ≤ 4294967296) : L97 (l, ()) = some ((l, ()), ()) := by
  show C97 (l, ()) = _
  unfold C97
  rw [if_pos (by simpa using hl)]

theorem L61_gen {neg : Bool} {n : Nat} (hl : (lim n).length ≤ 4294967296) : L61 (neg, lim n, ()) = some ((zl (sgn neg n), ()), ()) := by
  show F61 L97 (neg, lim n, ()) = _
  rw [F61_eq, L97_spec hl, zl_sgn, len_pos_int]
  cases neg <;> rfl

theorem L75_spec (z : Int) : L75 (zl z, ()) = some (((res z).1, (res z).2, ()), ()) := by
  show F75 ((decide (z < 0), lim z.natAbs), ()) = _
  rw [F75_eq]
  unfold res
  by_cases h : 200 < (lim z.natAbs).length
  · have p : ((lim z.natAbs).length : Int) > 200 := by omega
    rw [if_pos (by rw [decide_eq_true_eq]; exact p), if_pos h]
  · have p : ¬ ((lim z.natAbs).length : Int) > 200 := by omega
    rw [if_neg (by rw [decide_eq_true_eq]; exact p), if_neg h]
    rfl

theorem L63_spec (z : Int) : L63 (zl z, ()) = some ((lim z.natAbs, ()), ()) := F63_eq _ _
theorem L63_at (neg : Bool) (l : List Int) : L63 ((neg, l), ()) = some ((l, ()), ()) := F63_eq neg l
theorem pe {α β : Type} (p : α × β) : (p.1, p.2) = p := rfl


/-! ### Sums -/
/-- So long at most. -/
def Sz (k : Nat) (z : Int) : Prop := (lim z.natAbs).length ≤ k

theorem lim_add_length (a b : Nat) : (lim (a + b)).length ≤ max (lim a).length (lim b).length + 1 := by
  refine lim_length_of ?_
  have h1 := lim_lt a
  have h2 := lim_lt b
  have h3 : 4294967296 ^ (lim a).length ≤ 4294967296 ^ max (lim a).length (lim b).length := Nat.pow_le_pow_right (by decide) (Nat.le_max_left ..)
  have h4 : 4294967296 ^ (lim b).length ≤ 4294967296 ^ max (lim a).length (lim b).length := Nat.pow_le_pow_right (by decide) (Nat.le_max_right ..)
  rw [Nat.pow_succ]
  omega

theorem Sz.add {j k : Nat} {x y : Int} (hx : Sz j x) (hy : Sz k y) : Sz (max j k + 1) (x + y) := by
  have h1 := lim_add_length x.natAbs y.natAbs
  have h2 := lim_length_mono (Int.natAbs_add_le x y)
  unfold Sz at *
  omega

theorem lim_mul_length (a b : Nat) : (lim (a * b)).length ≤ (lim a).length + (lim b).length := by
  refine lim_length_of ?_
  rw [Nat.pow_add]
  have h1 := lim_lt a
  have h2 := lim_lt b
  by_cases hb : b = 0
  · subst hb
    rw [Nat.mul_zero]
    exact Nat.mul_pos (Nat.pow_pos (by decide)) (Nat.pow_pos (by decide))
  · exact Nat.mul_lt_mul_of_lt_of_le h1 (Nat.le_of_lt h2) (Nat.lt_of_le_of_lt (Nat.zero_le _) h2)

theorem Sz.mul {j k : Nat} {x y : Int} (hx : Sz j x) (hy : Sz k y) : Sz (j + k) (x * y) := by
  unfold Sz at *
  rw [Int.natAbs_mul]
  have := lim_mul_length x.natAbs y.natAbs
  omega

theorem Sz.neg {k : Nat} {x : Int} (hx : Sz k x) : Sz k (-x) := by
  unfold Sz at *
  rw [Int.natAbs_neg]
  exact hx

theorem Sz.mono {j k : Nat} {x : Int} (h : Sz j x) (hk : j ≤ k) : Sz k x := Nat.le_trans h hk

theorem Sz.le {k : Nat} {x y : Int} (h : Sz k y) (hx : x.natAbs ≤ y.natAbs) : Sz k x := Nat.le_trans (lim_length_mono hx) h

theorem L59_spec' {a b : Nat} (ha : (lim a).length < 1000000000) (hb : (lim b).length < 1000000000) : L59 (lim a, lim b, ()) = some ((lim (a + b), ()), ()) := by
  have := L59_spec (Wf_lim a) (Wf_lim b) ha hb
  rw [val_lim, val_lim, ← Int.natCast_add, Int.toNat_natCast] at this
  exact this

theorem L48_spec' {a b : Nat} (ha : (lim a).length < 1000000000) (hb : (lim b).length < 1000000000) : L48 (lim a, lim b, ()) = some ((lim (a + b), ()), ()) := by
  have := L48_spec (Wf_lim a) (Wf_lim b) ha hb
  rw [val_lim, val_lim, ← Int.natCast_add, Int.toNat_natCast] at this
  exact this

theorem L57_spec' {a b : Nat} (ha : (lim a).length < 1000000000) (hb : (lim b).length < 1000000000) : L57 (lim a, lim b, ()) = some ((lim (a * b), ()), ()) := by
  have := L57_spec (Wf_lim a) (Wf_lim b) ha hb
  rw [val_lim, val_lim, ← Int.natCast_mul, Int.toNat_natCast] at this
  exact this

theorem L49_spec' {a b : Nat} (ha : (lim a).length < 1000000000) (hb : (lim b).length < 1000000000) : L49 (lim a, lim b, ()) = some ((lim (a * b), ()), ()) := by
  have := L49_spec (Wf_lim a) (Wf_lim b) ha hb
  rw [val_lim, val_lim, ← Int.natCast_mul, Int.toNat_natCast] at this
  exact this

/-- The program's sum. -/
theorem L87_spec {x y : Int} (hx : Sz 1000000 x) (hy : Sz 1000000 y) : L87 (zl x, zl y, ()) = some ((zl (x + y), ()), ()) := by
  have hxy := hx.add hy
  unfold Sz at hx hy hxy
  show F87 L59 L61 L63 L79 L110 ((decide (x < 0), lim x.natAbs), (decide (y < 0), lim y.natAbs), ()) = _
  rw [F87_eq, L63_at, L63_at]
  simp only [Option.bind_some]
  by_cases hs : decide (x < 0) = decide (y < 0)
  · have p : (decide (x < 0) == decide (y < 0)) = true := by rw [hs]; simp
    have hs' := decide_eq_decide.1 hs
    have e : x.natAbs + y.natAbs = (x + y).natAbs := by omega
    rw [if_pos p, L59_spec' (by omega) (by omega), e]
    simp only [Option.bind_some]
    rw [L61_gen (by omega)]
    simp only [Option.bind_some, pe]
    have e2 : sgn (decide (x < 0)) (x + y).natAbs = x + y := by
      unfold sgn
      by_cases h : x < 0
      · rw [decide_eq_true h, if_pos rfl]; omega
      · rw [decide_eq_false h, if_neg (by decide)]; omega
    rw [e2]
  · have p : (decide (x < 0) == decide (y < 0)) = false := by rw [beq_eq_false_iff_ne]; exact hs
    have hs' : ¬ (x < 0 ↔ y < 0) := fun q => hs (decide_eq_decide.2 q)
    rw [p]
    obtain ⟨c, h79, hc, _⟩ := L79_spec (a := x.natAbs) (b := y.natAbs) (by omega) (by omega)
    simp only [Bool.false_eq_true, if_false]
    rw [h79]
    simp only [Option.bind_some]
    by_cases hlt : x.natAbs < y.natAbs
    · have p2 : ¬ c ≥ 0 := by have := hc.2 hlt; omega
      rw [if_neg (by rw [decide_eq_true_eq]; exact p2), L110_spec (by omega) (by omega)]
      simp only [Option.bind_some]
      have e : y.natAbs - x.natAbs = (x + y).natAbs := by omega
      rw [e, L61_gen (by omega)]
      simp only [Option.bind_some, pe]
      have e2 : sgn (decide (y < 0)) (x + y).natAbs = x + y := by
        unfold sgn
        by_cases h : y < 0
        · rw [decide_eq_true h, if_pos rfl]; omega
        · rw [decide_eq_false h, if_neg (by decide)]; omega
      rw [e2]
    · have p2 : c ≥ 0 := by
        rcases Int.lt_or_le c 0 with q | q
        · exact (hlt (hc.1 q)).elim
        · exact q
      rw [if_pos (by rw [decide_eq_true_eq]; exact p2), L110_spec (by omega) (by omega)]
      simp only [Option.bind_some]
      have e : x.natAbs - y.natAbs = (x + y).natAbs := by omega
      rw [e, L61_gen (by omega)]
      simp only [Option.bind_some, pe]
      have e2 : sgn (decide (x < 0)) (x + y).natAbs = x + y := by
        unfold sgn
        by_cases h : x < 0
        · rw [decide_eq_true h, if_pos rfl]; omega
        · rw [decide_eq_false h, if_neg (by decide)]; omega
      rw [e2]

/-- The reference's sum. -/
theorem L92_spec {x y : Int} (hx : Sz 1000000 x) (hy : Sz 1000000 y) : ∃ neg n, L92 (zl x, zl y, ()) = some ((neg, lim n, ()), ()) ∧ sgn neg n = x + y ∧ n = (x + y).natAbs := by
  have hxy := hx.add hy
  unfold Sz at hx hy hxy
  have q : ∃ neg n, F92 L48 L62 L102 ((decide (x < 0), lim x.natAbs), (decide (y < 0), lim y.natAbs), ()) = some ((neg, lim n, ()), ()) ∧ sgn neg n = x + y ∧ n = (x + y).natAbs := by
    rw [F92_eq]
    by_cases hs : decide (x < 0) = decide (y < 0)
    · have p : (decide (x < 0) == decide (y < 0)) = true := by rw [hs]; simp
      have hs' := decide_eq_decide.1 hs
      rw [if_pos p, L48_spec' (by omega) (by omega)]
      refine ⟨_, _, rfl, ?_, by omega⟩
      unfold sgn
      by_cases h : x < 0
      · rw [decide_eq_true h, if_pos rfl]; omega
      · rw [decide_eq_false h, if_neg (by decide)]; omega
    · have p : (decide (x < 0) == decide (y < 0)) = false := by rw [beq_eq_false_iff_ne]; exact hs
      have hs' : ¬ (x < 0 ↔ y < 0) := fun q => hs (decide_eq_decide.2 q)
      rw [p, L62_spec (by omega) (by omega)]
      simp only [Bool.false_eq_true, if_false, Option.bind_some]
      by_cases hlt : x.natAbs < y.natAbs
      · have p2 : ¬ sg x.natAbs y.natAbs ≥ 0 := by unfold sg; rw [if_pos hlt]; decide
        rw [if_neg (by rw [decide_eq_true_eq]; exact p2), L102_spec (by omega) (by omega)]
        refine ⟨_, _, rfl, ?_, by omega⟩
        unfold sgn
        by_cases h : y < 0
        · rw [decide_eq_true h, if_pos rfl]; omega
        · rw [decide_eq_false h, if_neg (by decide)]; omega
      · have p2 : sg x.natAbs y.natAbs ≥ 0 := by unfold sg; rw [if_neg hlt]; split <;> decide
        rw [if_pos (by rw [decide_eq_true_eq]; exact p2), L102_spec (by omega) (by omega)]
        refine ⟨_, _, rfl, ?_, by omega⟩
        unfold sgn
        by_cases h : x < 0
        · rw [decide_eq_true h, if_pos rfl]; omega
        · rw [decide_eq_false h, if_neg (by decide)]; omega
  exact q

theorem sgn_not (z : Int) : sgn (!decide (z < 0)) z.natAbs = -z := by
  unfold sgn
  by_cases h : z < 0
  · rw [decide_eq_true h]; simp only [Bool.not_true, Bool.false_eq_true, if_false]; omega
  · rw [decide_eq_false h]; simp only [Bool.not_false, if_true]; omega

/-- The negative, in both texts. -/
theorem L88_spec {z : Int} (hz : Sz 1000000 z) : L88 (zl z, ()) = some ((zl (-z), ()), ()) := by
  unfold Sz at hz
  show F88 L61 L63 ((decide (z < 0), lim z.natAbs), ()) = _
  rw [F88_eq, L63_at]
  simp only [Option.bind_some]
  rw [L61_gen (by omega), sgn_not]
  rfl

theorem L84_spec (z : Int) : L84 (zl z, ()) = some ((zl (-z), ()), ()) := by
  show F84 ((decide (z < 0), lim z.natAbs), ()) = _
  rw [F84_eq, ← sgn_not, zl_sgn, len_pos_int]
  cases decide (z < 0) <;> rfl

theorem sgn_mul (x y : Int) : sgn (!(decide (x < 0) == decide (y < 0))) (x.natAbs * y.natAbs) = x * y := by
  unfold sgn
  by_cases hx : x < 0
  · rw [decide_eq_true hx]
    obtain ⟨a, rfl⟩ : ∃ a : Nat, x = -(a : Int) := ⟨x.natAbs, by omega⟩
    by_cases hy : y < 0
    · rw [decide_eq_true hy]
      obtain ⟨b, rfl⟩ : ∃ b : Nat, y = -(b : Int) := ⟨y.natAbs, by omega⟩
      simp [Int.natAbs_neg] <;> grind
    · rw [decide_eq_false hy]
      obtain ⟨b, rfl⟩ : ∃ b : Nat, y = (b : Int) := ⟨y.natAbs, by omega⟩
      simp [Int.natAbs_neg] <;> grind
  · rw [decide_eq_false hx]
    obtain ⟨a, rfl⟩ : ∃ a : Nat, x = (a : Int) := ⟨x.natAbs, by omega⟩
    by_cases hy : y < 0
    · rw [decide_eq_true hy]
      obtain ⟨b, rfl⟩ : ∃ b : Nat, y = -(b : Int) := ⟨y.natAbs, by omega⟩
      simp [Int.natAbs_neg] <;> grind
    · rw [decide_eq_false hy]
      obtain ⟨b, rfl⟩ : ∃ b : Nat, y = (b : Int) := ⟨y.natAbs, by omega⟩
      simp

/-- The program's product. -/
theorem L89_spec {x y : Int} (hx : Sz 1000000 x) (hy : Sz 1000000 y) : L89 (zl x, zl y, ()) = some ((zl (x * y), ()), ()) := by
  have hl := lim_mul_length x.natAbs y.natAbs
  unfold Sz at hx hy
  show F89 L57 L61 L63 ((decide (x < 0), lim x.natAbs), (decide (y < 0), lim y.natAbs), ()) = _
  rw [F89_eq, L63_at, L63_at]
  simp only [Option.bind_some]
  rw [L57_spec' (by omega) (by omega)]
  simp only [Option.bind_some]
  rw [L61_gen (by omega), sgn_mul]
  rfl

/-! ### Errors of lists -/
def ers : List (Bool × List Int) → Int
  | [] => 0
  | a :: r => if err a.1 a.2 = 0 then ers r else err a.1 a.2

theorem ers_two (a b : Bool × List Int) : ers [a, b] = fst2 (err a.1 a.2) (err b.1 b.2) := by
  unfold fst2
  simp only [ers]
  split
  · split
    · rename_i h; exact h.symm
    · rfl
  · rfl

theorem getD_pair {ls : List (Bool × List Int)} {i : Nat} (h : i < ls.length) : ls.drop i = ls.getD i (false, []) :: ls.drop (i + 1) := by
  rw [List.drop_eq_getElem_cons h, List.getD_eq_getElem?_getD, List.getElem?_eq_getElem h]
  rfl

theorem L80_spec {ls : List (Bool × List Int)} (hl : ls.length < 1000000) (hs : ∀ a ∈ ls, a.2.length < 1000000000) : L80 (ls, ()) = some ((ers ls, ()), ()) := by
  obtain ⟨z, h1, hz⟩ := limL_ind (f := S80_2 L23) (fun x => ls.length - x.1.2.1.toNat)
    (fun x => ∃ i : Nat, x = ((ls, (i : Int), ()), ()) ∧ i ≤ ls.length ∧ ers (ls.drop i) = ers ls)
    (fun z => (z = .inl ((ers ls, ()), ())) ∨ (z = .inr ((), ()) ∧ ers ls = 0)) (by
    rintro x ⟨i, rfl, hi, he⟩
    have e := S80_2_eq L23 ls (i : Int)
    by_cases h0 : i < ls.length
    · have p0 : (0 : Int) ≤ (i : Int) := by omega
      have p1 : (i : Int) < (ls.length : Int) := by omega
      have e6 : IntKind.i64.wrap ((i : Int) + 1) = ((i + 1 : Nat) : Int) := by rw [wi (by omega) (by omega)]; omega
      have hmem : ls.getD i (false, []) ∈ ls := by
        rw [List.getD_eq_getElem?_getD, List.getElem?_eq_getElem h0]
        exact List.getElem_mem h0
      simp only [decide_eq_true_eq, p0, p1, if_true, Int.toNat_natCast, e6] at e
      rw [L23_spec (by have := hs _ hmem; omega)] at e
      simp only [Option.bind_some] at e
      rw [getD_pair h0] at he
      simp only [ers] at he
      by_cases h2 : err (ls.getD i (false, [])).1 (ls.getD i (false, [])).2 = 0
      · rw [h2] at e he
        rw [if_neg (by decide)] at e
        rw [if_pos rfl] at he
        exact .inl ⟨_, e, ⟨i + 1, rfl, by omega, he⟩, by simp only [Int.toNat_natCast]; omega⟩
      · rw [if_neg h2] at he
        rw [if_pos (by rw [Bool.not_eq_true', beq_eq_false_iff_ne]; exact h2), he] at e
        exact .inr ⟨_, e, .inl rfl⟩
    · right
      have p1 : ¬ (i : Int) < (ls.length : Int) := by omega
      simp only [decide_eq_true_eq, p1, if_false] at e
      rw [List.drop_of_length_le (by omega)] at he
      exact ⟨_, e, .inr ⟨rfl, he.symm⟩⟩) ((ls, 0, ()), ()) ⟨0, rfl, by omega, by rw [List.drop_zero]⟩
  have h1 : Lg80_2 ((ls, 0, ()), ()) = some z := h1
  have hF : L80 (ls, ()) = _ := F80_eq Lg80_2 ls
  rw [h1] at hF
  rcases hz with rfl | ⟨rfl, hz⟩
  · exact hF
  · rw [hF, hz]
    rfl

theorem L109_spec {ls : List (Bool × List Int)} (hl : ls.length < 1000000) (hs : ∀ a ∈ ls, a.2.length < 1000000000) : L109 (ls, (), ()) = some ((ls.map fun a => err a.1 a.2, ()), ()) := by
  obtain ⟨z, h1, rfl⟩ := limL_ind (f := S109_3 L22) (fun x => ls.length - x.1.2.2.2.2.1.toNat)
    (fun x => ∃ i : Nat, x = (((), (), ls, (ls.length : Int), (i : Int), ()), ((ls.take i).map fun a => err a.1 a.2, ())) ∧ i ≤ ls.length)
    (fun z => z = (((), ()), (ls.map fun a => err a.1 a.2, ()))) (by
    rintro x ⟨i, rfl, hi⟩
    have e := S109_3_eq L22 ls (ls.length : Int) (i : Int) ((ls.take i).map fun a => err a.1 a.2)
    by_cases h0 : i < ls.length
    · have p0 : (0 : Int) ≤ (i : Int) := by omega
      have p1 : (i : Int) < (ls.length : Int) := by omega
      have e6 : IntKind.i64.wrap ((i : Int) + 1) = ((i + 1 : Nat) : Int) := by rw [wi (by omega) (by omega)]; omega
      have hmem : ls.getD i (false, []) ∈ ls := by
        rw [List.getD_eq_getElem?_getD, List.getElem?_eq_getElem h0]
        exact List.getElem_mem h0
      simp only [decide_eq_true_eq, p0, p1, if_true, Int.toNat_natCast, e6] at e
      rw [L22_spec (by have := hs _ hmem; omega)] at e
      simp only [Option.bind_some] at e
      rw [if_pos (by simp; omega)] at e
      refine .inl ⟨_, e, ⟨i + 1, ?_, by omega⟩, by simp only [Int.toNat_natCast]; omega⟩
      have h5 : ls.take (i + 1) = ls.take i ++ [ls.getD i (false, [])] := by
        rw [List.take_succ_eq_append_getElem h0, List.getD_eq_getElem?_getD, List.getElem?_eq_getElem h0]
        rfl
      rw [h5, List.map_append]
      rfl
    · right
      have p1 : ¬ (i : Int) < (ls.length : Int) := by omega
      simp only [decide_eq_true_eq, p1, if_false] at e
      rw [List.take_of_length_le (by omega)] at e
      exact ⟨_, by rw [List.take_of_length_le (by omega)]; exact e, rfl⟩) (((), (), ls, (ls.length : Int), 0, ()), ([], ())) ⟨0, rfl, by omega⟩
  have h1 : Lg109_3 (((), (), ls, (ls.length : Int), 0, ()), ([], ())) = _ := h1
  have hF : L109 (ls, (), ()) = _ := F109_eq Lg109_3 ls
  rw [h1] at hF
  exact hF

theorem find_ers : ∀ (ls : List (Bool × List Int)), (match (ls.map fun a => err a.1 a.2).find? (fun e => !(e == 0)) with | some e => e | none => 0) = ers ls
  | [] => rfl
  | a :: r => by
    rw [List.map_cons]
    simp only [ers]
    by_cases h : err a.1 a.2 = 0
    · rw [if_pos h, ← find_ers r, List.find?_cons_of_neg (by rw [h]; decide)]
    · rw [if_neg h, List.find?_cons_of_pos (by simpa using h)]

theorem L85_spec {ls : List (Bool × List Int)} (hl : ls.length < 1000000) (hs : ∀ a ∈ ls, a.2.length < 1000000000) : L85 (ls, ()) = some ((ers ls, ()), ()) := by
  show F85 L52 L109 (ls, ()) = _
  rw [F85_eq, L109_spec hl hs]
  simp only [Option.bind_some]
  rw [L52_spec (by simp; omega), ← find_ers]
  rfl
end Go.Proofs.Rf
/- The reference's division, bit by bit. -/
namespace Go.Proofs.Rf
open Go Go.RowKit

theorem or_bit {x : Nat} {b : Nat} (hb : b ≤ 1) : bitop .or .u32 (IntKind.u32.wrap ((x : Int) * 2 ^ 1)) (b : Int) = ((2 * x % 4294967296 + b : Nat) : Int) := by
  have e : IntKind.u32.wrap ((x : Int) * 2 ^ 1) = ((x % 2147483648 * 2 ^ 1 : Nat) : Int) := by
    rw [w32m]
    omega
  rw [e, or32 (by omega) (by omega), or_parts (by omega)]
  congr 1
  omega

theorem S111_step {a r : List Int} {b i : Nat} (wa : Wf a) (hb : b ≤ 1) (hr : r.length = i) (hi : i < a.length) (hs : a.length < 1000000000) :
    S111_3 ((a, (b : Int), (), (i : Int), ()), (r, ())) = some (.inl ((a, (2 * a.getD i 0 + b) / 4294967296, (), ((i + 1 : Nat) : Int), ()), (r ++ [(2 * a.getD i 0 + b) % 4294967296], ()))) := by
  have xa := wa.getD i
  rw [S111_3_eq]
  have p1 : (i : Int) < (a.length : Int) := by omega
  have p2 : (0 : Int) ≤ (i : Int) := by omega
  have e1 : IntKind.i64.wrap ((i : Int) + 1) = ((i + 1 : Nat) : Int) := by rw [wi (by omega) (by omega)]; omega
  simp only [decide_eq_true_eq, p1, p2, if_true, Int.toNat_natCast, e1]
  generalize a.getD i 0 = A at *
  obtain ⟨x, rfl⟩ := Int.eq_ofNat_of_zero_le xa.1
  rw [or_bit hb, if_pos (by simp; omega)]
  have e2 : Int.fdiv (x : Int) (2 ^ 31) = (2 * (x : Int) + b) / 4294967296 := by
    rw [fdiv_pow]
    omega
  have e3 : ((2 * x % 4294967296 + b : Nat) : Int) = (2 * (x : Int) + b) % 4294967296 := by omega
  rw [e2, e3]

theorem L111_spec {n b : Nat} (hb : b ≤ 1) (hl : (lim n).length < 1000000) : L111 (lim n, (b : Int), ()) = some ((lim (2 * n + b), ()), ()) := by
  obtain ⟨z, h1, r, c, rfl, hw, hr, hc, hv⟩ := limL_ind (f := S111_3) (fun x => (lim n).length - x.1.2.2.2.1.toNat)
    (fun x => ∃ (c i : Nat) (r : List Int), x = ((lim n, (c : Int), (), (i : Int), ()), (r, ())) ∧ c ≤ 1 ∧ r.length = i ∧ i ≤ (lim n).length ∧ Wf r ∧ val r + 4294967296 ^ i * c = 2 * val ((lim n).take i) + b)
    (fun z => ∃ (r : List Int) (c : Nat), z = (((c : Int), (), ()), (r, ())) ∧ Wf r ∧ r.length = (lim n).length ∧ c ≤ 1 ∧ val r + 4294967296 ^ (lim n).length * c = 2 * val (lim n) + b) (by
    rintro x ⟨c, i, r, rfl, hc, hr, hi, hw, hv⟩
    by_cases hd : i < (lim n).length
    · left
      have xa := (Wf_lim n).getD i
      have hst := S111_step (Wf_lim n) hc hr hd (by omega)
      have hvs : val ((lim n).take (i + 1)) = _ := val_take_succ (lim n) i
      generalize (lim n).getD i 0 = A at *
      obtain ⟨c', hc'⟩ := Int.eq_ofNat_of_zero_le (show 0 ≤ (2 * A + (c : Int)) / 4294967296 by omega)
      rw [hc'] at hst
      refine ⟨_, hst, ⟨c', i + 1, _, rfl, by omega, by simp [hr], by omega, hw.append (Wf.cons (by omega) (by omega) Wf.nil), ?_⟩, by simp only [Int.toNat_natCast]; omega⟩
      rw [val_append, hr, hvs, powB]
      have hm : (2 * A + (c : Int)) % 4294967296 = 2 * A + c - 4294967296 * c' := by omega
      simp only [val, hm]
      generalize (4294967296 : Int) ^ i = P at *
      grind
    · right
      obtain rfl : i = (lim n).length := by omega
      refine ⟨_, ?_, r, c, rfl, hw, hr, hc, ?_⟩
      · rw [S111_3_eq, if_neg (by simp)]
      · rw [List.take_length] at hv
        exact hv) ((lim n, (b : Int), (), 0, ()), ([], ())) ⟨b, 0, [], rfl, hb, rfl, by omega, Wf.nil, by simp [val]⟩
  show F111 L50 Lg111_3 (lim n, (b : Int), ()) = _
  rw [F111_eq]
  have h1 : Lg111_3 ((lim n, (b : Int), (), 0, ()), [], ()) = _ := h1
  rw [h1]
  simp only [Option.bind_some]
  rw [if_pos (by simp; omega), L50_spec (hw.append (Wf.cons (by omega) (by omega) Wf.nil)) (by simp; omega), val_append, hr]
  simp only [val, Int.mul_zero, Int.add_zero, hv, val_lim, Option.bind_some]
  have : (2 * (n : Int) + b).toNat = 2 * n + b := by omega
  rw [this]

/-- The state of a division by bits. -/
structure DV (a b p : Nat) (r q : List Int) : Prop where
  hr : r = lim (a / 2 ^ p % b)
  wf : Wf q
  len : q.length = (lim a).length
  v : val q = ((a / 2 ^ p / b * 2 ^ p : Nat) : Int)

theorem half {a b p : Nat} (hb : b ≠ 0) :
    (a / 2 ^ p % b = if b ≤ 2 * (a / 2 ^ (p + 1) % b) + a / 2 ^ p % 2 then 2 * (a / 2 ^ (p + 1) % b) + a / 2 ^ p % 2 - b else 2 * (a / 2 ^ (p + 1) % b) + a / 2 ^ p % 2) ∧
    (a / 2 ^ p / b = if b ≤ 2 * (a / 2 ^ (p + 1) % b) + a / 2 ^ p % 2 then 2 * (a / 2 ^ (p + 1) / b) + 1 else 2 * (a / 2 ^ (p + 1) / b)) := by
  have h1 : a / 2 ^ (p + 1) = a / 2 ^ p / 2 := by rw [Nat.pow_succ, Nat.div_div_eq_div_mul]
  rw [h1]
  generalize a / 2 ^ p = A
  have h2 := Nat.div_add_mod (A / 2) b
  have h3 := Nat.mod_lt (A / 2) (Nat.pos_of_ne_zero hb)
  generalize A / 2 % b = r at *
  generalize A / 2 / b = q at *
  have h4 : A = 2 * (b * q + r) + A % 2 := by omega
  have h5 : A % 2 < 2 := Nat.mod_lt _ (by decide)
  generalize A % 2 = t at *
  by_cases hle : b ≤ 2 * r + t
  · rw [if_pos hle, if_pos hle]
    have h6 : A = (2 * r + t - b) + b * (2 * q + 1) := by
      rw [h4]
      have : b * (2 * q + 1) = 2 * (b * q) + b := by grind
      omega
    rw [h6, Nat.add_mul_mod_self_left, Nat.add_mul_div_left _ _ (Nat.pos_of_ne_zero hb)]
    have h7 : 2 * r + t - b < b := by omega
    rw [Nat.mod_eq_of_lt h7, Nat.div_eq_of_lt h7]
    omega
  · rw [if_neg hle, if_neg hle]
    have h6 : A = (2 * r + t) + b * (2 * q) := by
      rw [h4]
      have : b * (2 * q) = 2 * (b * q) := by grind
      omega
    rw [h6, Nat.add_mul_mod_self_left, Nat.add_mul_div_left _ _ (Nat.pos_of_ne_zero hb)]
    have h7 : 2 * r + t < b := by omega
    rw [Nat.mod_eq_of_lt h7, Nat.div_eq_of_lt h7]
    omega

theorem or_bit_in {m k : Nat} (hk : k < 32) {l : Nat} (hl : l = m * 2 ^ (k + 1) % 2 ^ 32) : l ||| 2 ^ k = l + 2 ^ k ∧ l + 2 ^ k < 2 ^ 32 := by
  have h1 : (2 : Nat) ^ 32 = 2 ^ (31 - k) * 2 ^ (k + 1) := by
    rw [← Nat.pow_add]
    congr 1
    omega
  rw [h1, Nat.mul_mod_mul_right] at hl
  have h2 := Nat.mod_lt m (Nat.two_pow_pos (31 - k))
  have h3 : 2 ^ k < 2 ^ (k + 1) := Nat.pow_lt_pow_right (by decide) (by omega)
  refine ⟨by rw [hl, or_parts h3], ?_⟩
  rw [h1, hl]
  generalize m % 2 ^ (31 - k) = t at *
  have h4 : (t + 1) * 2 ^ (k + 1) ≤ 2 ^ (31 - k) * 2 ^ (k + 1) := Nat.mul_le_mul_right _ h2
  rw [Nat.add_mul] at h4
  omega

theorem q_same {M p : Nat} : ((M * 2 ^ (p + 1) : Nat) : Int) = ((2 * M * 2 ^ p : Nat) : Int) := by
  congr 1
  rw [Nat.pow_succ]
  generalize 2 ^ p = T
  grind

theorem q_up {M k i l : Nat} : ((M * 2 ^ (32 * i + k + 1) : Nat) : Int) + 4294967296 ^ i * (((l + 2 ^ k : Nat) : Int) - (l : Int)) = (((2 * M + 1) * 2 ^ (32 * i + k) : Nat) : Int) := by
  have h1 : ((l + 2 ^ k : Nat) : Int) - (l : Int) = ((2 ^ k : Nat) : Int) := by
    generalize 2 ^ k = t
    omega
  rw [h1, ← castB, B_pow, ← Int.natCast_mul, ← Int.natCast_add, ← Nat.pow_add, Nat.pow_succ]
  generalize 2 ^ (32 * i + k) = T
  congr 1
  grind

theorem S91_7_step {a b i k : Nat} {r q : List Int} (hb : b ≠ 0) (hla : (lim a).length < 100000) (hlb : (lim b).length < 100000) (hi : i < (lim a).length) (hk : k < 32) (h : DV a b (32 * i + k + 1) r q) :
    ∃ r' q', S91_7 L62 L102 L111 ((lim a, lim b, (), r, (i : Int), (k : Int), ()), (q, ())) = some (.inl ((lim a, lim b, (), r', (i : Int), (k : Int) - 1, ()), (q', ()))) ∧ DV a b (32 * i + k) r' q' := by
  obtain ⟨hr, wq, hlq, hv⟩ := h
  subst hr
  have hrl : a / 2 ^ (32 * i + k + 1) % b < b := Nat.mod_lt _ (Nat.pos_of_ne_zero hb)
  have hbit := bit_val (Wf_lim a) (val_lim a) (32 * i + k)
  rw [show (32 * i + k) / 32 = i by omega, show (32 * i + k) % 32 = k by omega] at hbit
  obtain ⟨hm, hd⟩ := half (a := a) (p := 32 * i + k) hb
  have hlr : (lim (a / 2 ^ (32 * i + k + 1) % b)).length ≤ (lim b).length := lim_length_mono (by omega)
  have p1 : (k : Int) ≥ 0 := by omega
  have p2 : (0 : Int) ≤ (i : Int) := by omega
  have p3 : (i : Int) < ((lim a).length : Int) := by omega
  have p4 : ¬ (k : Int) < 0 := by omega
  have p5 : (i : Int) < (q.length : Int) := by omega
  have e1 : min k 32 = k := by omega
  have e2 : IntKind.i64.wrap ((k : Int) - 1) = (k : Int) - 1 := wi (by omega) (by omega)
  have H := S91_7_eq L62 L102 L111 (lim a) (lim b) (lim (a / 2 ^ (32 * i + k + 1) % b)) (i : Int) (k : Int) q
  simp only [decide_eq_true_eq, p1, p2, p3, p4, p5, if_true, if_false, Int.toNat_natCast, e1, e2, hbit] at H
  have hb2 : a / 2 ^ (32 * i + k) % 2 ≤ 1 := by omega
  rw [L111_spec hb2 (by omega)] at H
  simp only [Option.bind_some] at H
  have hl2 : (lim (2 * (a / 2 ^ (32 * i + k + 1) % b) + a / 2 ^ (32 * i + k) % 2)).length ≤ (lim b).length + 1 := by
    have q1 : 2 * (a / 2 ^ (32 * i + k + 1) % b) + a / 2 ^ (32 * i + k) % 2 ≤ b + b := by omega
    have q2 := lim_add_length b b
    have q3 := lim_length_mono q1
    omega
  rw [L62_spec (by omega) (by omega)] at H
  simp only [Option.bind_some] at H
  generalize hX : 2 * (a / 2 ^ (32 * i + k + 1) % b) + a / 2 ^ (32 * i + k) % 2 = X at *
  by_cases hle : b ≤ X
  · rw [if_pos hle] at hm hd
    have p6 : sg X b ≥ 0 := by unfold sg; rw [if_neg (by omega)]; split <;> decide
    rw [if_pos p6, L102_spec hle (by omega)] at H
    simp only [Option.bind_some] at H
    -- the quotient's bit
    have hq1 : q.getD i 0 = (lb (a / 2 ^ (32 * i + k + 1) / b * 2 ^ (32 * i + k + 1)) i : Int) := lb_of_val wq hv i
    have hq2 : lb (a / 2 ^ (32 * i + k + 1) / b * 2 ^ (32 * i + k + 1)) i = a / 2 ^ (32 * i + k + 1) / b * 2 ^ (k + 1) % 2 ^ 32 := by
      unfold lb
      rw [show 32 * i + k + 1 = (k + 1) + 32 * i by omega, Nat.pow_add, ← Nat.mul_assoc, Nat.mul_div_cancel _ (Nat.two_pow_pos _)]
    obtain ⟨hq3, hq4⟩ := or_bit_in hk hq2
    have e3 : IntKind.u32.wrap (1 * 2 ^ k) = ((2 ^ k : Nat) : Int) := by
      have : (1 : Int) * 2 ^ k = ((2 ^ k : Nat) : Int) := by simp
      rw [this, w32m]
      have h2 : 2 ^ k < 2 ^ 32 := Nat.pow_lt_pow_right (by decide) hk
      generalize 2 ^ k = t at *
      omega
    have hlk : 2 ^ k < 4294967296 := Nat.pow_lt_pow_right (by decide) hk
    rw [hq1, e3, or32 (lb_lt _ _) hlk, hq3] at H
    refine ⟨_, _, H, ?_, wq.set i (Int.natCast_nonneg _) ?_, by rw [List.length_set]; exact hlq, ?_⟩
    · rw [hm]
    · generalize lb (a / 2 ^ (32 * i + k + 1) / b * 2 ^ (32 * i + k + 1)) i + 2 ^ k = t at *
      omega
    · rw [val_set (by omega), hv, hq1, hd]
      exact q_up
  · rw [if_neg hle] at hm hd
    have p6 : ¬ sg X b ≥ 0 := by unfold sg; rw [if_pos (by omega)]; decide
    rw [if_neg p6] at H
    refine ⟨_, _, H, ?_, wq, hlq, ?_⟩
    · rw [hm]
    · rw [hv, hd]
      exact q_same

theorem Lg91_7_spec {a b i : Nat} {r q : List Int} (hb : b ≠ 0) (hla : (lim a).length < 100000) (hlb : (lim b).length < 100000) (hi : i < (lim a).length) (h : DV a b (32 * (i + 1)) r q) :
    ∃ r' q', Lg91_7 ((lim a, lim b, (), r, (i : Int), 31, ()), (q, ())) = some ((lim a, lim b, (), r', (i : Int), ()), (q', ())) ∧ DV a b (32 * i) r' q' := by
  obtain ⟨z, h1, r', q', rfl, h2⟩ := limL_ind (f := S91_7 L62 L102 L111) (fun x => (x.1.2.2.2.2.2.1 + 1).toNat)
    (fun x => ∃ (k : Nat) (r q : List Int), x = ((lim a, lim b, (), r, (i : Int), (k : Int) - 1, ()), (q, ())) ∧ k ≤ 32 ∧ DV a b (32 * i + k) r q)
    (fun z => ∃ r' q', z = ((lim a, lim b, (), r', (i : Int), ()), (q', ())) ∧ DV a b (32 * i) r' q') (by
    rintro x ⟨k, r, q, rfl, hk, hv⟩
    rcases Nat.eq_zero_or_pos k with rfl | hp
    · right
      refine ⟨_, ?_, r, q, rfl, hv⟩
      rw [S91_7_eq]
      rfl
    · left
      obtain ⟨k, rfl⟩ : ∃ k', k = k' + 1 := ⟨k - 1, by omega⟩
      obtain ⟨r', q', h3, h4⟩ := S91_7_step hb hla hlb hi (show k < 32 by omega) hv
      rw [show (k : Int) = ((k + 1 : Nat) : Int) - 1 by omega] at h3
      exact ⟨_, h3, ⟨k, r', q', by rw [show ((k + 1 : Nat) : Int) - 1 - 1 = (k : Int) - 1 by omega], by omega, h4⟩, by simp only; omega⟩) ((lim a, lim b, (), r, (i : Int), 31, ()), (q, ())) ⟨32, r, q, rfl, Nat.le_refl _, by rw [show 32 * i + 32 = 32 * (i + 1) by omega]; exact h⟩
  exact ⟨r', q', h1, h2⟩

/-- divide. -/
theorem L91_spec {a b : Nat} (hb : b ≠ 0) (hla : (lim a).length < 100000) (hlb : (lim b).length < 100000) : L91 (lim a, lim b, ()) = some ((lim (a / b), lim (a % b), ()), ()) := by
  obtain ⟨z, h1, r, q, rfl, hv⟩ := limL_ind (f := S91_4 Lg91_7) (fun x => (x.1.2.2.2.2.1 + 1).toNat)
    (fun x => ∃ (k : Nat) (r q : List Int), x = ((lim a, lim b, (), r, (k : Int) - 1, ()), (q, ())) ∧ k ≤ (lim a).length ∧ DV a b (32 * k) r q)
    (fun z => ∃ r q, z = (((), r, ()), (q, ())) ∧ DV a b 0 r q) (by
    rintro x ⟨k, r, q, rfl, hk, hv⟩
    rcases Nat.eq_zero_or_pos k with rfl | hp
    · right
      refine ⟨_, ?_, r, q, rfl, hv⟩
      rw [S91_4_eq]
      rfl
    · left
      obtain ⟨k, rfl⟩ : ∃ k', k = k' + 1 := ⟨k - 1, by omega⟩
      obtain ⟨r', q', h3, h4⟩ := Lg91_7_spec hb hla hlb (show k < (lim a).length by omega) hv
      have e := S91_4_eq Lg91_7 (lim a) (lim b) r (((k + 1 : Nat) : Int) - 1) q
      rw [show ((k + 1 : Nat) : Int) - 1 = (k : Int) by omega, h3] at e
      have p1 : (k : Int) ≥ 0 := by omega
      have e2 : IntKind.i64.wrap ((k : Int) - 1) = (k : Int) - 1 := wi (by omega) (by omega)
      simp only [decide_eq_true_eq, p1, if_true, Option.bind_some, e2] at e
      rw [show (k : Int) = ((k + 1 : Nat) : Int) - 1 by omega] at e
      exact ⟨_, e, ⟨k, r', q', by rw [show ((k + 1 : Nat) : Int) - 1 - 1 = (k : Int) - 1 by omega], by omega, h4⟩, by simp only; omega⟩) ((lim a, lim b, (), [], ((lim a).length : Int) - 1, ()), (List.replicate (lim a).length 0, ())) ⟨(lim a).length, _, _, rfl, Nat.le_refl _, by
      have hlt := lim_lt a
      rw [B_pow] at hlt
      refine ⟨?_, Wf.replicate _, by simp, ?_⟩
      · rw [Nat.div_eq_of_lt hlt, Nat.zero_mod, lim_zero]
      · rw [val_replicate, Nat.div_eq_of_lt hlt, Nat.zero_div, Nat.zero_mul]
        rfl⟩
  show F91 L50 Lg91_4 (lim a, lim b, ()) = _
  have e3 : IntKind.i64.wrap (((lim a).length : Int) - 1) = ((lim a).length : Int) - 1 := wi (by omega) (by omega)
  rw [F91_eq, if_pos (Int.le_refl _), if_pos (show ((lim a).length : Int) ≤ ((4294967296 : Nat) : Int) by omega), e3, Int.toNat_natCast]
  have h1 : Lg91_4 ((lim a, lim b, (), [], ((lim a).length : Int) - 1, ()), List.replicate (lim a).length 0, ()) = _ := h1
  rw [h1]
  simp only [Option.bind_some]
  obtain ⟨hr, wq, hlq, hq⟩ := hv
  rw [L50_spec wq (by omega), hq, hr]
  simp only [Option.bind_some, Int.toNat_natCast, Nat.pow_zero, Nat.div_one, Nat.mul_one]
end Go.Proofs.Rf
/- Quotients rounded down, in both texts. -/
namespace Go.Proofs.Rf
open Go Go.RowKit

theorem fl_unique {a b q r : Int} (h : r + b * q = a) (h1 : (0 ≤ r ∧ r < b) ∨ (b < r ∧ r ≤ 0)) : a.fdiv b = q ∧ a.fmod b = r := by
  rcases h1 with h1 | h1
  · exact (Int.fdiv_fmod_unique (by omega)).2 ⟨h, h1.1, h1.2⟩
  · exact (Int.fdiv_fmod_unique' (by omega)).2 ⟨h, h1.1, h1.2⟩

theorem floor_up {a b : Int} (hb : b ≠ 0) (hs : decide (a < 0) ≠ decide (b < 0)) (hr : a.natAbs % b.natAbs ≠ 0) :
    a.fdiv b = -((a.natAbs / b.natAbs + 1 : Nat) : Int) ∧ a.fmod b = sgn (decide (b < 0)) (b.natAbs - a.natAbs % b.natAbs) := by
  have h1 := Nat.div_add_mod a.natAbs b.natAbs
  have h2 := Nat.mod_lt a.natAbs (show b.natAbs > 0 by omega)
  have hs' : ¬ (a < 0 ↔ b < 0) := fun q => hs (decide_eq_decide.2 q)
  generalize a.natAbs / b.natAbs = Q at *
  generalize a.natAbs % b.natAbs = R at *
  have h3 : ((b.natAbs : Int)) * (Q : Int) + (R : Int) = (a.natAbs : Int) := by
    rw [← h1]
    simp only [Int.natCast_add, Int.natCast_mul]
  apply fl_unique
  · unfold sgn
    by_cases h : b < 0
    · rw [decide_eq_true h, if_pos rfl]
      have e1 : (b.natAbs : Int) = -b := by omega
      have e2 : (a.natAbs : Int) = a := by omega
      rw [e1, e2] at h3
      have e3 : ((b.natAbs - R : Nat) : Int) = -b - R := by omega
      rw [e3, Int.natCast_add]
      grind
    · rw [decide_eq_false h, if_neg (by decide)]
      have e1 : (b.natAbs : Int) = b := by omega
      have e2 : (a.natAbs : Int) = -a := by omega
      rw [e1, e2] at h3
      have e3 : ((b.natAbs - R : Nat) : Int) = b - R := by omega
      rw [e3, Int.natCast_add]
      grind
  · unfold sgn
    by_cases h : b < 0
    · rw [decide_eq_true h, if_pos rfl]
      omega
    · rw [decide_eq_false h, if_neg (by decide)]
      omega

theorem floor_same {a b : Int} (hb : b ≠ 0) (hs : decide (a < 0) = decide (b < 0) ∨ a.natAbs % b.natAbs = 0) :
    a.fdiv b = sgn (!(decide (a < 0) == decide (b < 0))) (a.natAbs / b.natAbs) ∧ a.fmod b = sgn (decide (b < 0)) (a.natAbs % b.natAbs) := by
  have h1 := Nat.div_add_mod a.natAbs b.natAbs
  have h2 := Nat.mod_lt a.natAbs (show b.natAbs > 0 by omega)
  generalize a.natAbs / b.natAbs = Q at *
  generalize a.natAbs % b.natAbs = R at *
  have h3 : ((b.natAbs : Int)) * (Q : Int) + (R : Int) = (a.natAbs : Int) := by
    rw [← h1]
    simp only [Int.natCast_add, Int.natCast_mul]
  apply fl_unique
  · unfold sgn
    by_cases h : b < 0
    · by_cases g : a < 0
      · rw [decide_eq_true h, decide_eq_true g]
        have e1 : (b.natAbs : Int) = -b := by omega
        have e2 : (a.natAbs : Int) = -a := by omega
        rw [e1, e2] at h3
        simp only [beq_self_eq_true, Bool.not_true, Bool.false_eq_true, if_false, if_true]
        grind
      · rw [decide_eq_true h, decide_eq_false g] at hs ⊢
        have hR : R = 0 := by
          rcases hs with hs | hs
          · cases hs
          · exact hs
        subst hR
        have e1 : (b.natAbs : Int) = -b := by omega
        have e2 : (a.natAbs : Int) = a := by omega
        rw [e1, e2] at h3
        simp only [show (!(false == true)) = true from rfl, if_true]
        grind
    · by_cases g : a < 0
      · rw [decide_eq_false h, decide_eq_true g] at hs ⊢
        have hR : R = 0 := by
          rcases hs with hs | hs
          · cases hs
          · exact hs
        subst hR
        have e1 : (b.natAbs : Int) = b := by omega
        have e2 : (a.natAbs : Int) = -a := by omega
        rw [e1, e2] at h3
        simp only [show (!(true == false)) = true from rfl, if_true, Bool.false_eq_true, if_false]
        grind
      · rw [decide_eq_false h, decide_eq_false g]
        have e1 : (b.natAbs : Int) = b := by omega
        have e2 : (a.natAbs : Int) = a := by omega
        rw [e1, e2] at h3
        simp only [beq_self_eq_true, Bool.not_true, Bool.false_eq_true, if_false]
        grind
  · unfold sgn
    by_cases h : b < 0
    · rw [decide_eq_true h, if_pos rfl]
      omega
    · rw [decide_eq_false h, if_neg (by decide)]
      omega

theorem lim_1 : lim 1 = [1] := by
  rw [lim_pos (by decide)]
  have : (1 : Nat) / 4294967296 = 0 := by decide
  rw [this, lim_zero]
  rfl

/-- The reference's floor. -/
theorem L74_spec {a b : Int} (hb : b ≠ 0) (ha : Sz 90000 a) (hbs : Sz 90000 b) : L74 (zl a, zl b, ()) = some (((res (a.fdiv b)).1, (res (a.fmod b)).1, ()), ()) := by
  unfold Sz at ha hbs
  have hq := lim_length_mono (Nat.div_le_self a.natAbs b.natAbs)
  have hr := lim_length_mono (Nat.mod_le a.natAbs b.natAbs)
  have hq1 := lim_add_length (a.natAbs / b.natAbs) 1
  have hl1 : (lim 1).length = 1 := by rw [lim_1]; rfl
  have hlt := Nat.mod_lt a.natAbs (show b.natAbs > 0 by omega)
  have hbr := lim_length_mono (Nat.sub_le b.natAbs (a.natAbs % b.natAbs))
  show F74 L48 L51 L91 L102 ((decide (a < 0), lim a.natAbs), (decide (b < 0), lim b.natAbs), ()) = _
  rw [F74_eq, L91_spec (by omega) (by omega) (by omega)]
  simp only [Option.bind_some]
  by_cases hs : decide (a < 0) = decide (b < 0)
  · have p : (!(decide (a < 0) == decide (b < 0))) = false := by rw [hs]; simp
    rw [p]
    simp only [Bool.false_eq_true, if_false]
    rw [L51_lim (by omega)]
    simp only [Option.bind_some]
    rw [L51_lim (by omega)]
    obtain ⟨f1, f2⟩ := floor_same hb (.inl hs)
    rw [p] at f1
    rw [f1, f2]
    rfl
  · have p : (!(decide (a < 0) == decide (b < 0))) = true := by
      rw [Bool.not_eq_true', beq_eq_false_iff_ne]
      exact hs
    rw [p]
    simp only [if_true]
    by_cases hR : a.natAbs % b.natAbs = 0
    · have p2 : ¬ decide (((lim (a.natAbs % b.natAbs)).length : Int) > 0) = true := by
        rw [hR, lim_zero]
        decide
      rw [if_neg p2, L51_lim (by omega)]
      simp only [Option.bind_some]
      rw [L51_lim (by omega)]
      obtain ⟨f1, f2⟩ := floor_same hb (.inr hR)
      rw [p] at f1
      rw [f1, f2]
      rfl
    · have p2 : decide (((lim (a.natAbs % b.natAbs)).length : Int) > 0) = true := by
        rw [decide_eq_true_eq]
        rcases Nat.eq_zero_or_pos (lim (a.natAbs % b.natAbs)).length with q | q
        · exact (hR (lim_eq_nil.1 (List.eq_nil_of_length_eq_zero q))).elim
        · omega
      rw [if_pos p2, ← lim_1, L48_spec' (by omega) (by omega)]
      simp only [Option.bind_some]
      rw [L102_spec (by omega) (by omega)]
      simp only [Option.bind_some]
      rw [L51_lim (by omega)]
      simp only [Option.bind_some]
      rw [L51_lim (by omega)]
      obtain ⟨f1, f2⟩ := floor_up hb hs hR
      rw [f1, f2]
      rfl

/-- The program's divided. -/
theorem L90_spec {a b : Int} (hb : b ≠ 0) (ha : Sz 90000 a) (hbs : Sz 90000 b) : L90 (zl a, zl b, ()) = some ((zl (a.fdiv b), zl (a.fmod b), ()), ()) := by
  have ha0 := ha
  have hb0 := hbs
  unfold Sz at ha hbs
  have hq := lim_length_mono (Nat.div_le_self a.natAbs b.natAbs)
  have hr := lim_length_mono (Nat.mod_le a.natAbs b.natAbs)
  have hlt := Nat.mod_lt a.natAbs (show b.natAbs > 0 by omega)
  show F90 L61 L63 L78 L87 ((decide (a < 0), lim a.natAbs), (decide (b < 0), lim b.natAbs), ()) = _
  rw [F90_eq, L63_at, L63_at]
  simp only [Option.bind_some]
  rw [L78_spec (by omega) (by omega) (by omega)]
  simp only [Option.bind_some]
  rw [L61_gen (by omega)]
  simp only [Option.bind_some]
  rw [L61_gen (by omega)]
  simp only [Option.bind_some]
  by_cases hs : decide (a < 0) = decide (b < 0)
  · have p : (!(decide (a < 0) == decide (b < 0))) = false := by rw [hs]; simp
    obtain ⟨f1, f2⟩ := floor_same hb (.inl hs)
    rw [p] at f1
    rw [p, f1, f2, hs]
    simp only [Bool.false_eq_true, if_false]
    split <;> rfl
  · have p : (!(decide (a < 0) == decide (b < 0))) = true := by
      rw [Bool.not_eq_true', beq_eq_false_iff_ne]
      exact hs
    rw [p]
    simp only [if_true]
    by_cases hR : a.natAbs % b.natAbs = 0
    · have p2 : ¬ decide (((lim (a.natAbs % b.natAbs)).length : Int) > 0) = true := by
        rw [hR, lim_zero]
        decide
      rw [if_neg p2]
      obtain ⟨f1, f2⟩ := floor_same hb (.inr hR)
      rw [p] at f1
      rw [f1, f2, hR]
      have : ∀ s, sgn s 0 = 0 := fun s => by cases s <;> rfl
      rw [this, this]
    · have p2 : decide (((lim (a.natAbs % b.natAbs)).length : Int) > 0) = true := by
        rw [decide_eq_true_eq]
        rcases Nat.eq_zero_or_pos (lim (a.natAbs % b.natAbs)).length with q | q
        · exact (hR (lim_eq_nil.1 (List.eq_nil_of_length_eq_zero q))).elim
        · omega
      rw [if_pos p2]
      have e1 : ((true, [1]) : Bool × List Int) = zl (-1) := by
        unfold zl
        rw [show (-1 : Int).natAbs = 1 from rfl, lim_1]
        rfl
      have s1 : Sz 1000000 (sgn true (a.natAbs / b.natAbs)) := by
        unfold Sz
        rw [sgn_natAbs]
        omega
      have s2 : Sz 1000000 (-1) := by
        unfold Sz
        rw [show (-1 : Int).natAbs = 1 from rfl, lim_1]
        decide
      have s3 : Sz 1000000 (sgn (decide (a < 0)) (a.natAbs % b.natAbs)) := by
        unfold Sz
        rw [sgn_natAbs]
        omega
      simp only [pe]
      rw [e1, L87_spec s1 s2]
      simp only [Option.bind_some]
      rw [show (decide (b < 0), lim b.natAbs) = zl b from rfl, L87_spec s3 (hb0.mono (by decide))]
      simp only [Option.bind_some]
      obtain ⟨f1, f2⟩ := floor_up hb hs hR
      have g1 : sgn true (a.natAbs / b.natAbs) + -1 = a.fdiv b := by
        rw [f1]
        unfold sgn
        rw [if_pos rfl]
        omega
      have g2 : sgn (decide (a < 0)) (a.natAbs % b.natAbs) + b = a.fmod b := by
        rw [f2]
        have hs' : ¬ (a < 0 ↔ b < 0) := fun q => hs (decide_eq_decide.2 q)
        unfold sgn
        by_cases h : b < 0
        · rw [decide_eq_true h, decide_eq_false (show ¬ a < 0 by omega), if_pos rfl, if_neg (by decide)]
          omega
        · rw [decide_eq_false h, decide_eq_true (show a < 0 by omega), if_pos rfl, if_neg (by decide)]
          omega
      rw [g1, g2]

theorem fdiv_Sz {a b : Int} {k : Nat} (ha : Sz k a) : Sz k (a.fdiv b) := ha.le (Int.natAbs_fdiv_le_natAbs a b)

theorem fmod_le {a b : Int} (hb : b ≠ 0) : (a.fmod b).natAbs ≤ b.natAbs := by
  rcases Int.lt_or_lt_of_ne hb with h | h
  · have := (Int.fdiv_fmod_unique' (a := a) (r := a.fmod b) (q := a.fdiv b) h).1 ⟨rfl, rfl⟩
    omega
  · have := (Int.fdiv_fmod_unique (a := a) (r := a.fmod b) (q := a.fdiv b) h).1 ⟨rfl, rfl⟩
    omega

theorem fmod_Sz {a b : Int} {k : Nat} (hb : b ≠ 0) (h : Sz k b) : Sz k (a.fmod b) := h.le (fmod_le hb)

theorem res_ok {z : Int} (h : Sz 200 z) : res z = (zl z, 0) := by
  unfold res
  unfold Sz at h
  rw [if_neg (by omega)]
end Go.Proofs.Rf
/- The law of Arithmetic returns true. -/
namespace Go.Proofs.Rf
open Go Go.RowKit

/-- Either an error, or both are right. -/
theorem two_cases {a b : Bool × List Int} (wa : Wf a.2) (wb : Wf b.2) : ers [a, b] ≠ 0 ∨ (ers [a, b] = 0 ∧ ∃ x y, a = zl x ∧ b = zl y ∧ Sz 200 x ∧ Sz 200 y) := by
  by_cases h : ers [a, b] = 0
  · right
    refine ⟨h, ?_⟩
    rw [ers_two] at h
    unfold fst2 at h
    split at h
    · rename_i h1
      obtain ⟨x, hx, hl⟩ := err_zero (neg := a.1) wa h1
      obtain ⟨y, hy, hm⟩ := err_zero (neg := b.1) wb h
      have hx : a = zl x := hx
      have hy : b = zl y := hy
      refine ⟨x, y, hx, hy, ?_, ?_⟩
      · rw [hx] at hl
        exact hl
      · rw [hy] at hm
        exact hm
    · rename_i h1
      exact (h1 h).elim
  · exact .inl h

theorem ne_zero_beq {e : Int} (h : e ≠ 0) : (!e == 0) = true := by
  rw [Bool.not_eq_true', beq_eq_false_iff_ne]
  exact h

theorem L80_two {a b : Bool × List Int} (ha : a.2.length < 1000000) (hb : b.2.length < 1000000) : L80 ([a, b], ()) = some ((ers [a, b], ()), ()) := L80_spec (by simp) (fun c hc => by
  rcases List.mem_cons.1 hc with rfl | hc
  · omega
  · rw [List.mem_singleton.1 hc]; omega)

theorem L85_two {a b : Bool × List Int} (ha : a.2.length < 1000000) (hb : b.2.length < 1000000) : L85 ([a, b], ()) = some ((ers [a, b], ()), ()) := L85_spec (by simp) (fun c hc => by
  rcases List.mem_cons.1 hc with rfl | hc
  · omega
  · rw [List.mem_singleton.1 hc]; omega)

theorem res_len (z : Int) : (res z).1.2.length ≤ 200 := by
  unfold res
  split
  · simp
  · simp only [zl_2]; omega

theorem L32_err {a b : Bool × List Int} (ha : a.2.length < 1000000) (hb : b.2.length < 1000000) (h : ers [a, b] ≠ 0) : L32 (a, b, ()) = some (((false, []), ers [a, b], ()), ()) := by
  obtain ⟨n1, l1⟩ := a
  obtain ⟨n2, l2⟩ := b
  show F32 L51 L80 L92 ((n1, l1), (n2, l2), ()) = _
  rw [F32_eq, L80_two (a := (n1, l1)) (b := (n2, l2)) ha hb]
  simp only [Option.bind_some]
  rw [if_pos (ne_zero_beq h)]

theorem L33_err {a b : Bool × List Int} (ha : a.2.length < 1000000) (hb : b.2.length < 1000000) (h : ers [a, b] ≠ 0) : L33 (a, b, ()) = some (((false, []), ers [a, b], ()), ()) := by
  obtain ⟨n1, l1⟩ := a
  obtain ⟨n2, l2⟩ := b
  show F33 L75 L85 L87 ((n1, l1), (n2, l2), ()) = _
  rw [F33_eq, L85_two (a := (n1, l1)) (b := (n2, l2)) ha hb]
  simp only [Option.bind_some]
  rw [if_pos (ne_zero_beq h)]

theorem L34_err {a b : Bool × List Int} (ha : a.2.length < 1000000) (hb : b.2.length < 1000000) (h : ers [a, b] ≠ 0) : L34 (a, b, ()) = some (((false, []), ers [a, b], ()), ()) := by
  obtain ⟨n1, l1⟩ := a
  obtain ⟨n2, l2⟩ := b
  show F34 L51 L80 L84 L92 ((n1, l1), (n2, l2), ()) = _
  rw [F34_eq, L80_two (a := (n1, l1)) (b := (n2, l2)) ha hb]
  simp only [Option.bind_some]
  rw [if_pos (ne_zero_beq h)]

theorem L35_err {a b : Bool × List Int} (ha : a.2.length < 1000000) (hb : b.2.length < 1000000) (h : ers [a, b] ≠ 0) : L35 (a, b, ()) = some (((false, []), ers [a, b], ()), ()) := by
  obtain ⟨n1, l1⟩ := a
  obtain ⟨n2, l2⟩ := b
  show F35 L75 L85 L87 L88 ((n1, l1), (n2, l2), ()) = _
  rw [F35_eq, L85_two (a := (n1, l1)) (b := (n2, l2)) ha hb]
  simp only [Option.bind_some]
  rw [if_pos (ne_zero_beq h)]

theorem L36_err {a b : Bool × List Int} (ha : a.2.length < 1000000) (hb : b.2.length < 1000000) (h : ers [a, b] ≠ 0) : L36 (a, b, ()) = some (((false, []), ers [a, b], ()), ()) := by
  obtain ⟨n1, l1⟩ := a
  obtain ⟨n2, l2⟩ := b
  show F36 L49 L51 L80 ((n1, l1), (n2, l2), ()) = _
  rw [F36_eq, L80_two (a := (n1, l1)) (b := (n2, l2)) ha hb]
  simp only [Option.bind_some]
  rw [if_pos (ne_zero_beq h)]

theorem L37_err {a b : Bool × List Int} (ha : a.2.length < 1000000) (hb : b.2.length < 1000000) (h : ers [a, b] ≠ 0) : L37 (a, b, ()) = some (((false, []), ers [a, b], ()), ()) := by
  obtain ⟨n1, l1⟩ := a
  obtain ⟨n2, l2⟩ := b
  show F37 L75 L85 L89 ((n1, l1), (n2, l2), ()) = _
  rw [F37_eq, L85_two (a := (n1, l1)) (b := (n2, l2)) ha hb]
  simp only [Option.bind_some]
  rw [if_pos (ne_zero_beq h)]

theorem L40_err {a b : Bool × List Int} (ha : a.2.length < 1000000) (hb : b.2.length < 1000000) (h : ers [a, b] ≠ 0) : L40 (a, b, ()) = some ((0, ers [a, b], ()), ()) := by
  obtain ⟨n1, l1⟩ := a
  obtain ⟨n2, l2⟩ := b
  show F40 L80 L93 ((n1, l1), (n2, l2), ()) = _
  rw [F40_eq, L80_two (a := (n1, l1)) (b := (n2, l2)) ha hb]
  simp only [Option.bind_some]
  rw [if_pos (ne_zero_beq h)]

theorem L41_err {a b : Bool × List Int} (ha : a.2.length < 1000000) (hb : b.2.length < 1000000) (h : ers [a, b] ≠ 0) : L41 (a, b, ()) = some ((0, ers [a, b], ()), ()) := by
  obtain ⟨n1, l1⟩ := a
  obtain ⟨n2, l2⟩ := b
  show F41 L85 L87 L88 ((n1, l1), (n2, l2), ()) = _
  rw [F41_eq, L85_two (a := (n1, l1)) (b := (n2, l2)) ha hb]
  simp only [Option.bind_some]
  rw [if_pos (ne_zero_beq h)]

theorem zl_len {z : Int} {k : Nat} (h : Sz k z) : (zl z).2.length ≤ k := h

section
variable {x y : Int} (hx : Sz 200 x) (hy : Sz 200 y) (h : ers [zl x, zl y] = 0)
include hx hy h

theorem L32_spec : L32 (zl x, zl y, ()) = some (((res (x + y)).1, (res (x + y)).2, ()), ()) := by
  show F32 L51 L80 L92 (((zl x).1, (zl x).2), ((zl y).1, (zl y).2), ()) = _
  rw [F32_eq]
  simp only [pe]
  rw [L80_two (by have := zl_len hx; omega) (by have := zl_len hy; omega), h]
  simp only [Option.bind_some]
  obtain ⟨neg, n, h92, h1, h2⟩ := L92_spec (hx.mono (show 200 ≤ 1000000 by decide)) (hy.mono (show 200 ≤ 1000000 by decide))
  have hxy := hx.add hy
  unfold Sz at hxy
  rw [if_neg (by decide), h92]
  simp only [Option.bind_some]
  rw [L51_lim (by rw [h2]; omega), h1]
  rfl

theorem L33_spec : L33 (zl x, zl y, ()) = some (((res (x + y)).1, (res (x + y)).2, ()), ()) := by
  show F33 L75 L85 L87 (((zl x).1, (zl x).2), ((zl y).1, (zl y).2), ()) = _
  rw [F33_eq]
  simp only [pe]
  rw [L85_two (by have := zl_len hx; omega) (by have := zl_len hy; omega), h]
  simp only [Option.bind_some]
  rw [if_neg (by decide), L87_spec (hx.mono (by decide)) (hy.mono (by decide))]
  simp only [Option.bind_some]
  rw [L75_spec]
  rfl

theorem L34_spec : L34 (zl x, zl y, ()) = some (((res (x - y)).1, (res (x - y)).2, ()), ()) := by
  show F34 L51 L80 L84 L92 (((zl x).1, (zl x).2), ((zl y).1, (zl y).2), ()) = _
  rw [F34_eq]
  simp only [pe]
  rw [L80_two (by have := zl_len hx; omega) (by have := zl_len hy; omega), h]
  simp only [Option.bind_some]
  obtain ⟨neg, n, h92, h1, h2⟩ := L92_spec (hx.mono (show 200 ≤ 1000000 by decide)) (hy.neg.mono (show 200 ≤ 1000000 by decide))
  have hxy := hx.add hy.neg
  unfold Sz at hxy
  rw [if_neg (by decide), L84_spec]
  simp only [Option.bind_some]
  rw [h92]
  simp only [Option.bind_some]
  rw [L51_lim (by rw [h2]; omega), h1, Int.sub_eq_add_neg]
  rfl

theorem L35_spec : L35 (zl x, zl y, ()) = some (((res (x - y)).1, (res (x - y)).2, ()), ()) := by
  show F35 L75 L85 L87 L88 (((zl x).1, (zl x).2), ((zl y).1, (zl y).2), ()) = _
  rw [F35_eq]
  simp only [pe]
  rw [L85_two (by have := zl_len hx; omega) (by have := zl_len hy; omega), h]
  simp only [Option.bind_some]
  rw [if_neg (by decide), L88_spec (hy.mono (by decide))]
  simp only [Option.bind_some]
  rw [L87_spec (hx.mono (by decide)) (hy.neg.mono (by decide))]
  simp only [Option.bind_some]
  rw [L75_spec, Int.sub_eq_add_neg]
  rfl

theorem L36_spec : L36 (zl x, zl y, ()) = some (((res (x * y)).1, (res (x * y)).2, ()), ()) := by
  have hl := lim_mul_length x.natAbs y.natAbs
  unfold Sz at hx hy
  show F36 L49 L51 L80 ((decide (x < 0), lim x.natAbs), (decide (y < 0), lim y.natAbs), ()) = _
  rw [F36_eq, L80_two (a := (decide (x < 0), lim x.natAbs)) (b := (decide (y < 0), lim y.natAbs)) (by simp only; omega) (by simp only; omega)]
  simp only [Option.bind_some]
  have h : ers [(decide (x < 0), lim x.natAbs), (decide (y < 0), lim y.natAbs)] = 0 := h
  rw [h, if_neg (by decide), L49_spec' (by omega) (by omega)]
  simp only [Option.bind_some]
  rw [L51_lim (by omega), sgn_mul]
  rfl

theorem L37_spec : L37 (zl x, zl y, ()) = some (((res (x * y)).1, (res (x * y)).2, ()), ()) := by
  show F37 L75 L85 L89 (((zl x).1, (zl x).2), ((zl y).1, (zl y).2), ()) = _
  rw [F37_eq]
  simp only [pe]
  rw [L85_two (by have := zl_len hx; omega) (by have := zl_len hy; omega), h]
  simp only [Option.bind_some]
  rw [if_neg (by decide), L89_spec (hx.mono (by decide)) (hy.mono (by decide))]
  simp only [Option.bind_some]
  rw [L75_spec]
  rfl

theorem L38_spec (h0 : y ≠ 0) : L38 (zl x, zl y, ()) = some ((zl (x.fdiv y), (res (x.fmod y)).1, 0, ()), ()) := by
  show F38 L74 L80 (((zl x).1, (zl x).2), ((zl y).1, (zl y).2), ()) = _
  rw [F38_eq]
  simp only [pe]
  rw [L80_two (by have := zl_len hx; omega) (by have := zl_len hy; omega), h]
  simp only [Option.bind_some]
  have p : (((zl y).2.length : Int) == 0) = false := by
    rw [beq_eq_false_iff_ne, zl_2]
    intro q
    have := lim_eq_nil.1 (List.eq_nil_of_length_eq_zero (show (lim y.natAbs).length = 0 by omega))
    omega
  rw [if_neg (by decide), p]
  simp only [Bool.false_eq_true, if_false]
  rw [L74_spec h0 (hx.mono (by decide)) (hy.mono (by decide)), res_ok (fdiv_Sz hx)]
  rfl

theorem L38_zero (h0 : y = 0) : L38 (zl x, zl y, ()) = some (((false, []), (false, []), 34, ()), ()) := by
  show F38 L74 L80 (((zl x).1, (zl x).2), ((zl y).1, (zl y).2), ()) = _
  rw [F38_eq]
  simp only [pe]
  rw [L80_two (by have := zl_len hx; omega) (by have := zl_len hy; omega), h]
  simp only [Option.bind_some]
  have p : (((zl y).2.length : Int) == 0) = true := by
    rw [beq_iff_eq, zl_2, h0]
    rw [show (0 : Int).natAbs = 0 from rfl, lim_zero]
    rfl
  rw [if_neg (by decide), if_pos p]

theorem L39_spec (h0 : y ≠ 0) : L39 (zl x, zl y, ()) = some ((zl (x.fdiv y), zl (x.fmod y), 0, ()), ()) := by
  show F39 L52 L53 L85 L90 (((zl x).1, (zl x).2), ((zl y).1, (zl y).2), ()) = _
  rw [F39_eq]
  simp only [pe]
  rw [L85_two (by have := zl_len hx; omega) (by have := zl_len hy; omega), h, L53_spec]
  simp only [Option.bind_some]
  have p : (((zl y).2.length : Int) == 0) = false := by
    rw [beq_eq_false_iff_ne, zl_2]
    intro q
    have := lim_eq_nil.1 (List.eq_nil_of_length_eq_zero (show (lim y.natAbs).length = 0 by omega))
    omega
  rw [p, L52_two]
  simp only [Bool.false_eq_true, if_false, Option.bind_some, fst2, if_true]
  rw [if_neg (by decide), L90_spec h0 (hx.mono (by decide)) (hy.mono (by decide))]
  simp only [Option.bind_some]
  have s1 := zl_len (fdiv_Sz (b := y) hx)
  have s2 := zl_len (fmod_Sz (a := x) h0 hy)
  have p1 : decide (((zl (x.fdiv y)).2.length : Int) > 200) = false := by rw [decide_eq_false_iff_not]; omega
  have p2 : decide (((zl (x.fmod y)).2.length : Int) > 200) = false := by rw [decide_eq_false_iff_not]; omega
  rw [p1, p2, L53_spec]
  simp only [Bool.false_eq_true, if_false, Option.bind_some]
  rw [L52_two]
  simp only [Option.bind_some, fst2, if_true]
  rw [if_neg (by decide)]

theorem L39_zero (h0 : y = 0) : L39 (zl x, zl y, ()) = some (((false, []), (false, []), 34, ()), ()) := by
  show F39 L52 L53 L85 L90 (((zl x).1, (zl x).2), ((zl y).1, (zl y).2), ()) = _
  rw [F39_eq]
  simp only [pe]
  rw [L85_two (by have := zl_len hx; omega) (by have := zl_len hy; omega), h, L53_spec]
  simp only [Option.bind_some]
  have p : (((zl y).2.length : Int) == 0) = true := by
    rw [beq_iff_eq, zl_2, h0]
    rw [show (0 : Int).natAbs = 0 from rfl, lim_zero]
    rfl
  rw [p, L52_two]
  simp only [if_true, Option.bind_some, fst2]
  rw [if_pos (by decide)]

/-- The sign of a difference. -/
theorem L40_spec : L40 (zl x, zl y, ()) = some ((if x < y then -1 else if x = y then 0 else 1, 0, ()), ()) := by
  unfold Sz at hx hy
  show F40 L80 L93 ((decide (x < 0), lim x.natAbs), (decide (y < 0), lim y.natAbs), ()) = _
  rw [F40_eq, L80_two (a := (decide (x < 0), lim x.natAbs)) (b := (decide (y < 0), lim y.natAbs)) (by simp only; omega) (by simp only; omega)]
  simp only [Option.bind_some]
  have h : ers [(decide (x < 0), lim x.natAbs), (decide (y < 0), lim y.natAbs)] = 0 := h
  rw [h, if_neg (by decide)]
  have e : L93 ((decide (x < 0), lim x.natAbs), (decide (y < 0), lim y.natAbs), ()) = some ((if x < y then -1 else if x = y then 0 else 1, ()), ()) := by
    show F93 L62 ((decide (x < 0), lim x.natAbs), (decide (y < 0), lim y.natAbs), ()) = _
    rw [F93_eq]
    by_cases hs : decide (x < 0) = decide (y < 0)
    · have p : (!(decide (x < 0) == decide (y < 0))) = false := by rw [hs]; simp
      have hs' := decide_eq_decide.1 hs
      rw [p]
      simp only [Bool.false_eq_true, if_false]
      by_cases g : x < 0
      · rw [if_pos (decide_eq_true g), L62_spec (by omega) (by omega)]
        simp only [Option.bind_some]
        unfold sg
        by_cases c1 : x < y
        · rw [if_pos c1, if_pos (by omega)]
        · rw [if_neg c1, if_neg (by omega)]
          by_cases c2 : x = y
          · rw [if_pos c2, if_pos (by omega)]
          · rw [if_neg c2, if_neg (by omega)]
      · rw [if_neg (by rw [decide_eq_true_eq]; exact g), L62_spec (by omega) (by omega)]
        simp only [Option.bind_some]
        unfold sg
        by_cases c1 : x < y
        · rw [if_pos c1, if_pos (by omega)]
        · rw [if_neg c1, if_neg (by omega)]
          by_cases c2 : x = y
          · rw [if_pos c2, if_pos (by omega)]
          · rw [if_neg c2, if_neg (by omega)]
    · have p : (!(decide (x < 0) == decide (y < 0))) = true := by
        rw [Bool.not_eq_true', beq_eq_false_iff_ne]
        exact hs
      have hs' : ¬ (x < 0 ↔ y < 0) := fun q => hs (decide_eq_decide.2 q)
      rw [if_pos p]
      by_cases g : x < 0
      · rw [if_pos (decide_eq_true g), if_pos (show x < y by omega)]
      · rw [if_neg (by rw [decide_eq_true_eq]; exact g), if_neg (show ¬ x < y by omega), if_neg (show ¬ x = y by omega)]
  rw [e]
  rfl

theorem L41_spec : L41 (zl x, zl y, ()) = some ((if x < y then -1 else if x = y then 0 else 1, 0, ()), ()) := by
  show F41 L85 L87 L88 (((zl x).1, (zl x).2), ((zl y).1, (zl y).2), ()) = _
  rw [F41_eq]
  simp only [pe]
  rw [L85_two (by have := zl_len hx; omega) (by have := zl_len hy; omega), h]
  simp only [Option.bind_some]
  rw [if_neg (by decide), L88_spec (hy.mono (by decide))]
  simp only [Option.bind_some]
  rw [L87_spec (hx.mono (by decide)) (hy.neg.mono (by decide))]
  simp only [Option.bind_some]
  by_cases c1 : x < y
  · have p : (((zl (x + -y)).2.length : Int) == 0) = false := by
      rw [beq_eq_false_iff_ne, zl_2]
      intro q
      have := lim_eq_nil.1 (List.eq_nil_of_length_eq_zero (show (lim (x + -y).natAbs).length = 0 by omega))
      omega
    rw [p, if_pos c1, zl_1, decide_eq_true (show x + -y < 0 by omega)]
    rfl
  · rw [if_neg c1]
    by_cases c2 : x = y
    · have p : (((zl (x + -y)).2.length : Int) == 0) = true := by
        rw [beq_iff_eq, zl_2, show x + -y = 0 by omega, show (0 : Int).natAbs = 0 from rfl, lim_zero]
        rfl
      rw [if_pos p, if_pos c2]
    · have p : (((zl (x + -y)).2.length : Int) == 0) = false := by
        rw [beq_eq_false_iff_ne, zl_2]
        intro q
        have := lim_eq_nil.1 (List.eq_nil_of_length_eq_zero (show (lim (x + -y).natAbs).length = 0 by omega))
        omega
      rw [p, if_neg c2, zl_1, decide_eq_false (show ¬ x + -y < 0 by omega)]
      rfl
end

theorem L38_err {a b : Bool × List Int} (ha : a.2.length < 1000000) (hb : b.2.length < 1000000) (h : ers [a, b] ≠ 0) : L38 (a, b, ()) = some (((false, []), (false, []), ers [a, b], ()), ()) := by
  obtain ⟨n1, l1⟩ := a
  obtain ⟨n2, l2⟩ := b
  show F38 L74 L80 ((n1, l1), (n2, l2), ()) = _
  rw [F38_eq, L80_two (a := (n1, l1)) (b := (n2, l2)) ha hb]
  simp only [Option.bind_some]
  rw [if_pos (ne_zero_beq h)]

theorem L39_err {a b : Bool × List Int} (ha : a.2.length < 1000000) (hb : b.2.length < 1000000) (h : ers [a, b] ≠ 0) : L39 (a, b, ()) = some (((false, []), (false, []), ers [a, b], ()), ()) := by
  obtain ⟨n1, l1⟩ := a
  obtain ⟨n2, l2⟩ := b
  show F39 L52 L53 L85 L90 ((n1, l1), (n2, l2), ()) = _
  rw [F39_eq, L85_two (a := (n1, l1)) (b := (n2, l2)) ha hb, L53_spec]
  simp only [Option.bind_some]
  rw [L52_two]
  unfold fst2
  rw [if_neg h]
  simp only [Option.bind_some]
  rw [if_pos (ne_zero_beq h)]

section
variable {a b : Bool × List Int} (wa : Wf a.2) (wb : Wf b.2) (ha : a.2.length < 1000000) (hb : b.2.length < 1000000)
include wa wb ha hb

theorem add_same : ∃ n l e, L32 (a, b, ()) = some (((n, l), e, ()), ()) ∧ L33 (a, b, ()) = some (((n, l), e, ()), ()) ∧ l.length < 1000000000 := by
  rcases two_cases wa wb with h | ⟨h, x, y, rfl, rfl, hx, hy⟩
  · exact ⟨_, _, _, L32_err ha hb h, L33_err ha hb h, by decide⟩
  · exact ⟨_, _, _, L32_spec hx hy h, L33_spec hx hy h, Nat.lt_of_le_of_lt (res_len _) (by decide)⟩

theorem sub_same : ∃ n l e, L34 (a, b, ()) = some (((n, l), e, ()), ()) ∧ L35 (a, b, ()) = some (((n, l), e, ()), ()) ∧ l.length < 1000000000 := by
  rcases two_cases wa wb with h | ⟨h, x, y, rfl, rfl, hx, hy⟩
  · exact ⟨_, _, _, L34_err ha hb h, L35_err ha hb h, by decide⟩
  · exact ⟨_, _, _, L34_spec hx hy h, L35_spec hx hy h, Nat.lt_of_le_of_lt (res_len _) (by decide)⟩

theorem mul_same : ∃ n l e, L36 (a, b, ()) = some (((n, l), e, ()), ()) ∧ L37 (a, b, ()) = some (((n, l), e, ()), ()) ∧ l.length < 1000000000 := by
  rcases two_cases wa wb with h | ⟨h, x, y, rfl, rfl, hx, hy⟩
  · exact ⟨_, _, _, L36_err ha hb h, L37_err ha hb h, by decide⟩
  · exact ⟨_, _, _, L36_spec hx hy h, L37_spec hx hy h, Nat.lt_of_le_of_lt (res_len _) (by decide)⟩

theorem div_same : ∃ n l n' l' e, L38 (a, b, ()) = some (((n, l), (n', l'), e, ()), ()) ∧ L39 (a, b, ()) = some (((n, l), (n', l'), e, ()), ()) ∧ l.length < 1000000000 ∧ l'.length < 1000000000 := by
  rcases two_cases wa wb with h | ⟨h, x, y, rfl, rfl, hx, hy⟩
  · exact ⟨_, _, _, _, _, L38_err ha hb h, L39_err ha hb h, by decide, by decide⟩
  · by_cases h0 : y = 0
    · exact ⟨_, _, _, _, _, L38_zero hx hy h h0, L39_zero hx hy h h0, by decide, by decide⟩
    · have e1 := L38_spec hx hy h h0
      rw [res_ok (fmod_Sz h0 hy)] at e1
      have s1 := zl_len (fdiv_Sz (b := y) hx)
      have s2 := zl_len (fmod_Sz (a := x) h0 hy)
      exact ⟨_, _, _, _, _, e1, L39_spec hx hy h h0, by simp only [zl_2] at s1; omega, by simp only [zl_2] at s2; omega⟩

theorem cmp_same : ∃ n e, L40 (a, b, ()) = some ((n, e, ()), ()) ∧ L41 (a, b, ()) = some ((n, e, ()), ()) := by
  rcases two_cases wa wb with h | ⟨h, x, y, rfl, rfl, hx, hy⟩
  · exact ⟨_, _, L40_err ha hb h, L41_err ha hb h⟩
  · exact ⟨_, _, L40_spec hx hy h, L41_spec hx hy h⟩
end

noncomputable def law7 : (SV.denL ps7) → Option (rs7).den := F7 K9 L12 L13 L14 L17 L32 L33 L34 L35 L36 L37 L38 L39 L40 L41

theorem law7_of {K : (SV.denL ps9) → Option (rs9).den} (hK : K () = some ((true, ()), ())) {n1 n2 : Bool} {l1 l2 : List Int} (wa : Wf l1) (wb : Wf l2) :
    F7 K L12 L13 L14 L17 L32 L33 L34 L35 L36 L37 L38 L39 L40 L41 ((n1, l1), (n2, l2), ()) = some ((true, ()), ()) := by
  rw [F7_eq]
  obtain ⟨b, h14, hb⟩ := L14_spec (most := 30) (ls := [(n1, l1), (n2, l2)]) (by simp)
  rw [h14]
  simp only [Option.bind_some]
  by_cases hs : l1.length < 1000000 ∧ l2.length < 1000000
  · obtain ⟨ha, hbl⟩ := hs
    obtain ⟨m1, k1, e1, h32, h33, q1⟩ := add_same (a := (n1, l1)) (b := (n2, l2)) wa wb ha hbl
    obtain ⟨m2, k2, e2, h34, h35, q2⟩ := sub_same (a := (n1, l1)) (b := (n2, l2)) wa wb ha hbl
    obtain ⟨m3, k3, e3, h36, h37, q3⟩ := mul_same (a := (n1, l1)) (b := (n2, l2)) wa wb ha hbl
    obtain ⟨m4, k4, m5, k5, e4, h38, h39, q4, q5⟩ := div_same (a := (n1, l1)) (b := (n2, l2)) wa wb ha hbl
    obtain ⟨m6, e6, h40, h41⟩ := cmp_same (a := (n1, l1)) (b := (n2, l2)) wa wb ha hbl
    have h17a := L17_spec (neg := n1) (l := l1) (by omega)
    have h17b := L17_spec (neg := n2) (l := l2) (by omega)
    rw [h32, h17a, h17b, h34, h36, h38, h40]
    simp only [Option.bind_some]
    rw [h33, h35, h37, h39, h41]
    simp only [Option.bind_some]
    rw [L13_two m1 k1, L13_two m2 k2, L13_two m3 k3, L13_two m4 k4, L13_two m5 k5]
    simp only [Option.bind_some]
    rw [L12_same (neg := m1) q1, L12_same (neg := m2) q2, L12_same (neg := m3) q3, L12_same (neg := m4) q4, L12_same (neg := m5) q5]
    simp only [Option.bind_some]
    rw [hK]
    simp
  · have hb' : b = false := by
      cases b with
      | false => rfl
      | true =>
        exfalso
        have h1 := hb rfl (n1, l1) (by simp)
        have h2 := hb rfl (n2, l2) (by simp)
        simp only at h1 h2
        omega
    have p1 : (((l1.length : Int) == 200) = true → ¬ (!decide ((l2.length : Int) ≤ 1)) = true → False) := by
      intro h1 h2
      simp only [beq_iff_eq, Bool.not_eq_true', decide_eq_false_iff_not, Classical.not_not] at h1 h2
      omega
    have p2 : (decide ((l1.length : Int) ≤ 1) = true → ¬ (!((l2.length : Int) == 200)) = true → False) := by
      intro h1 h2
      simp only [Bool.not_eq_true', decide_eq_true_eq, beq_eq_false_iff_ne, ne_eq, Classical.not_not] at h1 h2
      omega
    rw [hb', if_pos (show (!false) = true from rfl), hK]
    by_cases c1 : ((l1.length : Int) == 200) = true
    · rw [if_pos c1]
      by_cases c2 : (!decide ((l2.length : Int) ≤ 1)) = true
      · rw [if_pos c2]
        by_cases c3 : decide ((l1.length : Int) ≤ 1) = true
        · rw [if_pos c3]
          by_cases c4 : (!((l2.length : Int) == 200)) = true
          · rw [if_pos c4]
            rfl
          · exact (p2 c3 c4).elim
        · rw [if_neg c3]
          rfl
      · exact (p1 c1 c2).elim
    · rw [if_neg c1]
      by_cases c3 : decide ((l1.length : Int) ≤ 1) = true
      · rw [if_pos c3]
        by_cases c4 : (!((l2.length : Int) == 200)) = true
        · rw [if_pos c4]
          rfl
        · exact (p2 c3 c4).elim
      · rw [if_neg c3]
        rfl

theorem law7_ok : CallOK Try.prog 7 (mkCall ps7 rs7 law7) := call7 okL12 okL13 okL14 okL17 okL32 okL33 okL34 okL35 okL36 okL37 okL38 okL39 okL40 okL41 okK9

theorem law7_true {n1 n2 : Bool} {l1 l2 : List Int} (wa : Wf l1) (wb : Wf l2) : law7 ((n1, l1), (n2, l2), ()) = some ((true, ()), ()) := law7_of K9_val wa wb
end Go.Proofs.Rf
/- Rf, part H: from a law's contract to what a given statement asks of its walk. -/
namespace Go.Proofs.Rf
open Go Go.RowKit

def iNone : Nat → Option Value := fun _ => none
def cDead : Nat → Blk := fun _ => .dead

theorem owned_none {ι : Nat → Option Value} {b : Nat} : ¬ owned ι cDead b := by
  rintro ⟨k, hk⟩
  rw [bk_dead rfl] at hk
  cases hk

/-- A world of which nothing is the call's own. -/
theorem HRel.start (w : World) : HRel (fun _ => False) (fun b => b < w.heap.size) w iNone cDead w :=
  ⟨fun k => trivial, fun k k' b h1 _ => (by rw [bk_dead rfl] at h1; cases h1), Kept.refl _ _, fun b hb => (owned_none hb).elim, fun b hb => hb, fun b hb => (owned_none hb).elim, fun b hb => hb.elim⟩

/-- A law that is handed data and returns true. -/
theorem law_walk {P : Program} {f : Nat} {ps : List SV} {F : SV.denL ps → Option (Shape.den ⟨[(0, .d false .bool)], []⟩)} (h : CallOK P f (mkCall ps ⟨[(0, .d false .bool)], []⟩ F)) (w : World) {args : List AV} {vs : List Value} {x : SV.denL ps} {fz : List (Nat × Blk)}
    (ht : SV.takeL cDead [] ps args = some (x, fz)) (hF : F x = some ((true, ()), ())) (hrel : RelL w (fun b => b < w.heap.size) iNone args vs) : Calls P f vs.toArray w fun e w' => e = .returned (.bool true) ∧ Below w.heap.size w w' := by
  have hok : okb (fun _ => False) w iNone cDead = fun b => b < w.heap.size := by
    funext b
    exact propext ⟨fun q => q.1, fun q => ⟨q, owned_none, fun q => q⟩⟩
  have hco : mkCall ps ⟨[(0, .d false .bool)], []⟩ F args cDead 0 Eff some = some ⟨.d .bool true, [], []⟩ := by
    unfold mkCall
    rw [ht]
    simp only [hF]
    rfl
  refine (h.run _ _ w w iNone cDead 0 args vs _ (HRel.start w) (by rw [hok]; exact hrel) hco (fun _ _ _ => rfl)).mono ?_
  rintro e w' ⟨v, rfl, ι', H, E, hv, _⟩
  have hv := rel_bool.1 hv
  exact ⟨by rw [hv], H.fr.os, H.fr.tape, H.fr.output, H.fr.size, fun i hi => H.fr.block i hi hi⟩
end Go.Proofs.Rf
/- Rf, part I: what a given statement hands to a law: data of the law's types, read off the world; and how it reads behind the call. -/
namespace Go.Proofs.Rf
open Go Go.RowKit Go.ChangeShapes Go.WideShapes

/-- A kind of numbers holds a number. -/
def fitK (k : IntKind) (n : Int) : Prop := k.min ≤ n ∧ n ≤ k.max

/-- Numbers fit their kinds; what is long is not too long. -/
def Ty.fit : (t : Ty) → t.den → Prop
  | .int k, n => fitK k n
  | .str, s => s.length ≤ maxLen
  | .sl t, xs => xs.length ≤ maxLen ∧ ∀ x ∈ xs, t.fit x
  | .pr a b, x => a.fit x.1 ∧ b.fit x.2
  | _, _ => True

def tyFs (g : Nat → Option Ty) (c : Nat → Nat) : Nat → List Field → Option (List Ty)
  | _, [] => some []
  | o, f :: r => match g f.type with
    | some ty => if (Nat.beq f.offset o && Nat.beq (c f.type) ty.size) = true then (match tyFs g c (o + ty.size) r with
      | some ts => some (ty :: ts)
      | none => none) else none
    | none => none

/-- The shape of data of a type, where its parts lie one behind the other. -/
def goodTy (P : Program) : Nat → Nat → Option Ty
  | 0, _ => none
  | k + 1, t => match P.underlying t with
    | some (.int i) => some (.int i)
    | some .bool => some .bool
    | some .string => some .str
    | some (.slice e) => (match goodTy P k e with
      | some ty => if (Nat.blt 0 ty.size && Nat.beq (P.cellsOf e) ty.size) = true then some (.sl ty) else none
      | none => none)
    | some (.struct fields) => (match tyFs (goodTy P k) P.cellsOf 0 fields.toList with
      | some ts => if Nat.beq (P.cellsOf t) (prL ts).size = true then some (prL ts) else none
      | none => none)
    | _ => none

theorem goodTy_int {P : Program} {k t : Nat} {i : IntKind} (h : P.underlying t = some (.int i)) : goodTy P (k + 1) t = some (.int i) := by unfold goodTy; rw [h]

section
variable {H : Type} {enc : TypeId × Value → H} {P : Program} {w : World} {sp : Nat → Bool} {held : Bool}

theorem cells_get {a : Addr} {n : Nat} {cs : List Value} (h : w.cells? 0 a n = some cs) : cs.length = n ∧ ∀ j u, cs[j]? = some u → w.cell? (a.add j) = some u := by
  unfold World.cells? at h
  rw [if_pos (Nat.zero_le _)] at h
  have hl := mapM_some_length h
  rw [List.length_range] at hl
  refine ⟨hl, fun j u hu => ?_⟩
  have hj : j < n := by
    rw [← hl]
    exact (List.getElem?_eq_some_iff.1 hu).1
  have := mapM_some_get h j j (by simp [hj])
  rw [hu] at this
  exact this

theorem add_plain (g o j : Nat) : Addr.add ⟨g, o, none⟩ j = ⟨g, o + j, none⟩ := by
  unfold Addr.add
  split
  · rename_i h
    rw [h]; rfl
  · rfl

theorem add_two (a : Addr) {m r j : Nat} (h : m + r = j) : (a.add m).add r = a.add j := by
  subst h
  unfold Addr.add
  by_cases h1 : m = 0
  · subst h1
    simp
  · by_cases h2 : r = 0
    · subst h2
      simp [h1]
    · rw [if_neg h1, if_neg h2, if_neg (by omega), Nat.add_assoc]

theorem cell_place {a : Addr} {u : Value} (h : w.cell? a = some u) : a.spot = none ∧ a.block < w.heap.size := by
  refine ⟨World.cell?_spot h, ?_⟩
  unfold World.cell? at h
  split at h
  · rename_i h1
    exact (Array.getElem?_eq_some_iff.1 h1).1
  · cases h

/-- A row of equal parts. -/
theorem rowL {α : Type} {D : α → List Value → Prop} {Q : α → Prop} {n : Nat} (at_ : Nat → Option (List Value)) : ∀ (len k : Nat), (∀ i, i < len → ∃ cs x, at_ (k + i) = some cs ∧ cs.length = n ∧ D x cs ∧ Q x) →
    ∃ (xs : List α) (cs : List Value), xs.length = len ∧ RzL D xs cs ∧ cs.length = len * n ∧ (∀ x ∈ xs, Q x) ∧ ∀ i j c, i < len → at_ (k + i) = some c → j < n → cs[i * n + j]? = c[j]?
  | 0, k, _ => ⟨[], [], rfl, rfl, by simp, by simp, fun i j c hi => by omega⟩
  | len + 1, k, h => by
    obtain ⟨c0, x0, h0, hl0, hd0, hq0⟩ := h 0 (by omega)
    obtain ⟨xs, cs, hxl, hr, hcl, hq, hg⟩ := rowL at_ len (k + 1) (fun i hi => by
      obtain ⟨c, x, h1, h2⟩ := h (i + 1) (by omega)
      exact ⟨c, x, by rw [show k + 1 + i = k + (i + 1) by omega]; exact h1, h2⟩)
    refine ⟨x0 :: xs, c0 ++ cs, by simp [hxl], ⟨c0, cs, rfl, hd0, hr⟩, by rw [List.length_append, hl0, hcl, Nat.add_mul]; omega, ?_, ?_⟩
    · intro x hx
      rcases List.mem_cons.1 hx with rfl | hx
      · exact hq0
      · exact hq x hx
    · intro i j c hi hc hj
      cases i with
      | zero =>
        rw [Nat.add_zero] at h0 hc
        rw [h0] at hc
        cases hc
        rw [Nat.zero_mul, Nat.zero_add, List.getElem?_append_left (by omega)]
      | succ i =>
        rw [List.getElem?_append_right (by rw [hl0, Nat.add_mul]; omega), show (i + 1) * n + j - c0.length = i * n + j by rw [hl0, Nat.add_mul]; omega]
        exact hg i j c (by omega) (by rw [show k + 1 + i = k + (i + 1) by omega]; exact hc) hj

/-- The parts of a struct. -/
theorem fields_open {g : Nat → Option Ty} {c : Nat → Nat} {cs : List Value} {D : Nat → List Value → Prop} (ho : ∀ t ty us, g t = some ty → D t us → ∃ x : ty.den, Rz w (fun b => b < w.heap.size) ty x us ∧ ty.fit x) :
    ∀ (fs : List Field) (ts : List Ty) (o : Nat), tyFs g c o fs = some ts → (∀ f ∈ fs, D f.type ((cs.drop f.offset).take (c f.type))) → (cs.drop o).length = (prL ts).size →
      ∃ x : (prL ts).den, Rz w (fun b => b < w.heap.size) (prL ts) x (cs.drop o) ∧ (prL ts).fit x
  | [], ts, o, ht, _, hl => by
    cases ht
    exact ⟨(), List.eq_nil_of_length_eq_zero hl, trivial⟩
  | f :: r, ts, o, ht, hD, hl => by
    unfold tyFs at ht
    split at ht
    · rename_i ty hty
      split at ht
      · rename_i hc
        split at ht
        · rename_i ts' hts
          cases ht
          simp only [Bool.and_eq_true] at hc
          have ho' := Nat.eq_of_beq_eq_true hc.1
          have hs := Nat.eq_of_beq_eq_true hc.2
          have hd := hD f (by simp)
          rw [ho', hs] at hd
          obtain ⟨x, hx, hf⟩ := ho _ _ _ hty hd
          cases ts' with
          | nil =>
            have hl : _ = ty.size := hl
            rw [List.take_of_length_le (by omega)] at hx
            exact ⟨x, hx, hf⟩
          | cons b r' =>
            have hl : _ = ty.size + (prL (b :: r')).size := hl
            obtain ⟨y, hy, hg⟩ := fields_open ho r (b :: r') (o + ty.size) hts (fun f hf => hD f (by simp [hf])) (by rw [← List.drop_drop, List.length_drop]; omega)
            exact ⟨(x, y), ⟨_, _, by rw [← List.drop_drop, List.take_append_drop], hx, hy⟩, hf, hg⟩
        · cases ht
      · cases ht
    · cases ht

/-- Data of a type, read off its cells. -/
theorem open_cells : ∀ (k : Nat) (t : Nat) (ty : Ty), goodTy P k t = some ty → ∀ (fuel : Nat) (cs : List Value) (d : DataW H × List MemPlace), DataW.trod enc P w 0 sp held fuel t cs = some d →
    ∃ x : ty.den, Rz w (fun b => b < w.heap.size) ty x cs ∧ ty.fit x
  | 0, t, ty, hty, _, _, _, _ => by cases hty
  | k + 1, t, ty, hty, fuel, cs, d, h => by
    unfold goodTy at hty
    split at hty
    · rename_i i hu
      cases hty
      obtain ⟨n, rfl, _, hw⟩ := DataW.trod_int hu h
      simp only [Lit.wf, Bool.and_eq_true, decide_eq_true_eq] at hw
      exact ⟨n, rfl, hw⟩
    · rename_i hu
      cases hty
      obtain ⟨b, rfl, _⟩ := DataW.trod_bool hu h
      exact ⟨b, rfl, trivial⟩
    · rename_i hu
      cases hty
      obtain ⟨s, rfl, _, hs⟩ := DataW.trod_string hu h
      refine ⟨s.data.toList, ?_, ?_⟩
      · show _ = _
        cases s
        rfl
      · show _ ≤ _
        rw [Array.length_toList]
        exact hs
    · rename_i e hu
      split at hty
      · rename_i te hte
        split at hty
        · rename_i hc
          cases hty
          simp only [Bool.and_eq_true] at hc
          have hpos : 0 < te.size := Nat.le_of_ble_eq_true hc.1
          have hsz := Nat.eq_of_beq_eq_true hc.2
          rcases DataW.trod_slice hu h with ⟨rfl, _⟩ | ⟨a, len, cap, elems, rest, n, _, rfl, _, _, hlc, hcm, hel, hget, _, _⟩
          · exact ⟨[], ⟨none, 0, rfl, Nat.le_refl _, fun hp => by simp at hp⟩, by simp [Ty.fit]⟩
          · have hrow : ∀ i, i < len → ∃ cs x, (fun i => w.cells? 0 (a.add (i * te.size)) te.size) (0 + i) = some cs ∧ cs.length = te.size ∧ Rz w (fun b => b < w.heap.size) te x cs ∧ te.fit x := by
              intro i hi
              have hg := hget i hi
              rw [hsz, List.getElem?_eq_getElem (by omega)] at hg
              obtain ⟨c, h1, h2⟩ := Option.bind_eq_some_iff.1 hg
              obtain ⟨x, hx, hf⟩ := open_cells k e te hte n c _ h2
              exact ⟨c, x, by rw [Nat.zero_add]; exact h1, (cells_get h1).1, hx, hf⟩
            obtain ⟨xs, cs, hxl, hr, hcl, hq, hg⟩ := rowL (fun i => w.cells? 0 (a.add (i * te.size)) te.size) len 0 hrow
            refine ⟨xs, ⟨some a, cap, by rw [hxl], by rw [hxl]; exact hlc, fun hp => ?_⟩, by rw [hxl]; omega, hq⟩
            rw [hxl] at hp
            have hcell : ∀ j u, cs[j]? = some u → w.cell? (a.add j) = some u := by
              intro j u hu
              have hj : j < len * te.size := by rw [← hcl]; exact (List.getElem?_eq_some_iff.1 hu).1
              have hi : j / te.size < len := Nat.div_lt_of_lt_mul (by rw [Nat.mul_comm]; exact hj)
              obtain ⟨c, _, h1, hl, _⟩ := hrow (j / te.size) hi
              have hjm : j % te.size < te.size := Nat.mod_lt _ hpos
              have e1 : j / te.size * te.size + j % te.size = j := by rw [Nat.mul_comm]; exact Nat.div_add_mod _ _
              have := hg (j / te.size) (j % te.size) c hi h1 hjm
              rw [e1, hu] at this
              rw [Nat.zero_add] at h1
              have h3 := (cells_get h1).2 (j % te.size) u this.symm
              have e2 : (a.add (j / te.size * te.size)).add (j % te.size) = a.add j := add_two a e1
              rw [← e2]
              exact h3
            have h0 : ∃ u, cs[0]? = some u := by
              refine ⟨_, List.getElem?_eq_getElem ?_⟩
              rw [hcl]
              exact Nat.mul_pos hp hpos
            obtain ⟨u, hu⟩ := h0
            have hp := cell_place (hcell 0 u hu)
            obtain ⟨g, o, s⟩ := a
            obtain ⟨hp1, hp2⟩ := hp
            have hs : s = none := hp1
            subst hs
            exact ⟨g, o, cs, rfl, hp2, hr, fun j u hu => by rw [← add_plain]; exact hcell j u hu⟩
        · cases hty
      · cases hty
    · rename_i fields hu
      split at hty
      · rename_i ts hts
        split at hty
        · rename_i hc
          cases hty
          obtain ⟨xs, n, _, _, hlen, _, hf⟩ := DataW.trod_struct hu h
          rw [Nat.eq_of_beq_eq_true hc] at hlen
          have hf : ∀ f ∈ fields.toList, ∃ y, DataW.trod enc P w 0 sp held n f.type ((cs.drop f.offset).take (P.cellsOf f.type)) = some y := by
            intro f hm
            obtain ⟨i, hi, e⟩ := List.getElem_of_mem hm
            have hi' : i < fields.size := by simpa using hi
            have e' : fields[i]? = some f := by rw [Array.getElem?_eq_getElem hi']; simp only [← e, Array.getElem_toList]
            have := hf i f e'
            rw [this]
            exact ⟨xs[i]'(by omega), List.getElem?_eq_getElem _⟩
          have := fields_open (cs := cs) (D := fun t us => ∃ y, DataW.trod enc P w 0 sp held n t us = some y) (fun t ty us h1 ⟨y, h2⟩ => open_cells k t ty h1 n us y h2) fields.toList ts 0 hts hf (by rw [List.drop_zero]; exact hlen)
          rw [List.drop_zero] at this
          exact this
        · cases hty
      · cases hty
    · cases hty

/-! ### Arguments -/
def aggB (P : Program) (t : Nat) : Bool := match P.underlying t with
  | some (.struct _) => true
  | _ => false

theorem eqv_self : ∀ (t : Ty), t.eqv t = some ⟨rfl⟩
  | .int k => by
    have : ikEq k k = true := by cases k <;> rfl
    simp [Ty.eqv, this]
  | .bool => rfl
  | .str => rfl
  | .sl t => by
    unfold Ty.eqv
    rw [eqv_self t]
  | .pr a b => by
    unfold Ty.eqv
    rw [eqv_self a, eqv_self b]
  | .un => rfl
  | .fk f => by simp [Ty.eqv]

theorem pack_unpack (C : Nat → Blk) : ∀ (t : Ty) (x : t.den) (r : List AV), pack C t (unpack t x ++ r) = some (x, r, [])
  | .int k, x, r => by
    have : dat1 C (.int k) (.d (.int k) x) = some (x, []) := by
      show (if ikEq k k = true then some (x, []) else none) = _
      rw [if_pos (by cases k <;> rfl)]
    show (match dat1 C (.int k) (.d (.int k) x) with | some (x, f) => some (x, r, f) | none => none) = _
    rw [this]
  | .bool, x, r => rfl
  | .str, x, r => rfl
  | .sl t, x, r => by
    have : dat1 C (.sl t) (.d (.sl t) x) = some (x, []) := by
      simp only [dat1, eqv_self]
      rfl
    show (match dat1 C (.sl t) (.d (.sl t) x) with | some (x, f) => some (x, r, f) | none => none) = _
    rw [this]
  | .pr a b, x, r => by
    show pack C (.pr a b) ((unpack a x.1 ++ unpack b x.2) ++ r) = _
    rw [List.append_assoc]
    unfold pack
    rw [pack_unpack C a x.1]
    simp only
    rw [pack_unpack C b x.2]
    rfl
  | .un, x, r => rfl
  | .fk f, x, r => by
    have : dat1 C (.fk f) (.fn f []) = some ((), []) := by
      show (if Nat.beq f f = true then some ((), []) else none) = _
      rw [if_pos (Nat.beq_refl f)]
    show (match dat1 C (.fk f) (.fn f []) with | some (x, f) => some (x, r, f) | none => none) = _
    rw [this]

theorem dat_ag (C : Nat → Blk) (t : Ty) (x : t.den) : dat C t (.ag (unpack t x)) = some (x, []) := by
  have := pack_unpack C t x []
  rw [List.append_nil] at this
  show (match pack C t (unpack t x) with | some (x, [], f) => some (x, f) | _ => none) = _
  rw [this]

theorem take_ag (C : Nat → Blk) (t : Ty) (x : t.den) : SV.take C [] (.d true t) (.ag (unpack t x)) = some (x, []) := dat_ag C t x

theorem take_one (C : Nat → Blk) (t : Ty) (x : t.den) (h : unpack t x = [.d t x]) : SV.take C [] (.d false t) (.d t x) = some (x, []) := by
  have := pack_unpack C t x []
  rw [List.append_nil, h] at this
  show (match pack C t [.d t x] with | some (x, [], f) => some (x, f) | _ => none) = _
  rw [this]

theorem open_arg {r : Reach} {b0 k t : Nat} {ty : Ty} {v : Value} {d : DataW H} {ps : List MemPlace} (hg : goodTy P (k + 1) t = some ty) (hv : Value.okWide P w r b0 t v) (hd : DataW.Trod enc P w 0 sp held t v d ps) :
    ∃ (a : AV) (x : ty.den), RelV w (fun b => b < w.heap.size) iNone a v ∧ SV.take cDead [] (.d (aggB P t) ty) a = some (x, []) ∧ ty.fit x := by
  obtain ⟨fuel, hf⟩ := hd
  obtain ⟨x, hx, hfit⟩ := open_cells (k + 1) t ty hg fuel _ _ hf
  unfold goodTy at hg
  unfold aggB
  split at hg
  · rename_i i hu
    cases hg
    obtain ⟨n, rfl⟩ := okWide_int hu hv
    rw [hu]
    exact ⟨_, x, by simp only [RelV]; exact hx, take_one _ _ x rfl, hfit⟩
  · rename_i hu
    cases hg
    obtain ⟨n, rfl⟩ := okWide_bool hu hv
    rw [hu]
    exact ⟨_, x, by simp only [RelV]; exact hx, take_one _ _ x rfl, hfit⟩
  · rename_i hu
    cases hg
    obtain ⟨n, rfl⟩ := okWide_string hu hv
    rw [hu]
    exact ⟨_, x, by simp only [RelV]; exact hx, take_one _ _ x rfl, hfit⟩
  · rename_i e hu
    split at hg
    · split at hg
      · cases hg
        obtain ⟨a, l, c, rfl⟩ := okWide_slice hu hv
        rw [hu]
        exact ⟨_, x, by simp only [RelV]; exact hx, take_one _ _ x rfl, hfit⟩
      · cases hg
    · cases hg
  · rename_i fs hu
    split at hg
    · split at hg
      · cases hg
        obtain ⟨cs, rfl, _⟩ := okWide_struct hu hv
        rw [hu]
        have hx : Rz _ _ _ x cs.toList := hx
        exact ⟨_, x, by simp only [RelV]; exact ⟨cs.toList, by simp, RelL_unpack _ _ _ hx⟩, take_ag _ _ x, hfit⟩
      · cases hg
    · cases hg
  · cases hg

def argsOf (P : Program) : List Nat → Option (List SV)
  | [] => some []
  | t :: r => match goodTy P 16 t with
    | some ty => match argsOf P r with
      | some s => some (.d (aggB P t) ty :: s)
      | none => none
    | none => none

def fitL : (l : List SV) → SV.denL l → Prop
  | [], _ => True
  | .d _ t :: r, x => t.fit x.1 ∧ fitL r x.2
  | _ :: _, _ => False

/-- All arguments, as data. -/
theorem open_args {r : Reach} {b0 : Nat} : ∀ (ts : List TypeId) (vs : List Value) (ds : List (DataW H)) (ps : List MemPlace), DataW.TrodAll enc P w 0 sp held ts vs ds ps →
    (∀ (j : Nat) t v, ts[j]? = some t → vs[j]? = some v → Value.okWide P w r b0 t v) → ∀ (svs : List SV), argsOf P ts = some svs →
    ∃ (avs : List AV) (x : SV.denL svs), RelL w (fun b => b < w.heap.size) iNone avs vs ∧ SV.takeL cDead [] svs avs = some (x, []) ∧ fitL svs x
  | [], vs, ds, ps, h, _, svs, hs => by
    obtain ⟨rfl, _, _⟩ := trodAll_nil h
    cases hs
    exact ⟨[], (), RelL_nil.2 rfl, rfl, trivial⟩
  | t :: ts, vs, ds, ps, h, hv, svs, hs => by
    obtain ⟨v, vs', d, ds', p, q, rfl, rfl, rfl, hd, hr⟩ := trodAll_cons h
    unfold argsOf at hs
    split at hs
    · rename_i ty hty
      split at hs
      · rename_i s hs'
        cases hs
        obtain ⟨a, x, h1, h2, h3⟩ := open_arg hty (hv 0 t v rfl rfl) hd
        obtain ⟨avs, y, h4, h5, h6⟩ := open_args ts vs' ds' q hr (fun j t' v' h7 h8 => hv (j + 1) t' v' h7 h8) s hs'
        refine ⟨a :: avs, (x, y), RelL_cons.2 ⟨v, vs', rfl, h1, h4⟩, ?_, h3, h6⟩
        unfold SV.takeL
        rw [h2]
        simp only
        rw [h5]
        rfl
      · cases hs
    · cases hs

/-- They read behind the call as ahead of it. -/
theorem shut_args {W W' : World} (hl : laidOutB P = true) (hb : Below W.heap.size W W') : ∀ (ts : List TypeId) (vs : List Value) (ds : List (DataW H)) (ps : List MemPlace), (∀ t ∈ ts, P.readableRec t = true ∧ t < P.types.size) →
    DataW.TrodAll enc P W 0 (fun _ => true) true ts vs ds ps → DataW.TrodAll enc P W' 0 (fun b => decide (b < W.heap.size)) true ts vs ds ps
  | [], vs, ds, ps, _, h => by
    obtain ⟨rfl, rfl, rfl⟩ := trodAll_nil h
    exact trodAll_mk0
  | t :: ts, vs, ds, ps, ht, h => by
    obtain ⟨v, vs', d, ds', p, q, rfl, rfl, rfl, hd, hr⟩ := trodAll_cons h
    have lt : ∀ x ∈ p, x.block < W.heap.size := by
      obtain ⟨m, hm⟩ := hd
      exact DataW.trod_lt m _ _ _ hm
    exact trodAll_cons_mk (Below.trod hl (ht t (by simp)).1 (ht t (by simp)).2 hd hb lt) (shut_args hl hb ts vs' ds' q (fun t' h' => ht t' (by simp [h'])) hr)
end
end Go.Proofs.Rf
/- Limbs that are handed in. -/
namespace Go.Proofs.Rf
open Go Go.RowKit
theorem Wf_of_fit {a : List Int} (h : (Ty.sl (.int .u32)).fit a) : Wf a := fun x hx => by
  have := h.2 x hx
  have h0 : IntKind.u32.min = 0 := by decide
  have h1 : IntKind.u32.max = 4294967295 := by decide
  have h2 : IntKind.u32.min ≤ x ∧ x ≤ IntKind.u32.max := this
  rw [h0, h1] at h2
  omega
end Go.Proofs.Rf
