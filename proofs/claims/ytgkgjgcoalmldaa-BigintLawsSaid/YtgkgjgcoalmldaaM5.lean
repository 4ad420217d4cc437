/- Texts put together: R4, R5, R6, R7, R8, R9, R10, R11, R12, T1, T2, T3, Gg, Gh, Z0, T4, E411, U1, U2, U3. -/
import Derived.Test.YtgkgjgcoalmldaaM4
import Derived.Below
import Derived.WalkKit
import Derived.ProofKit
import Derived.OpenShut
import Derived.ChangeOld
import Derived.ChangeArms
import Derived.Carry
/- Divided by a power of two, in the program; copies. -/
namespace Go.Proofs.Rf
open Go Go.RowKit

theorem val_ne {l : List Int} (hw : Wf l) : val l ≠ 0 ↔ ∃ i, i < l.length ∧ l.getD i 0 ≠ 0 := by
  constructor
  · intro h
    rcases Classical.em (∃ i, i < l.length ∧ l.getD i 0 ≠ 0) with q | q
    · exact q
    · refine (h (val_zero fun k hk => ?_)).elim
      rcases Classical.em (l.getD k 0 = 0) with q2 | q2
      · exact q2
      · exact (q ⟨k, hk, q2⟩).elim
  · rintro ⟨i, hi, hne⟩ h0
    have h1 := val_split l i (by omega)
    rw [drop_at hi] at h1
    simp only [val] at h1
    have h2 := val_nonneg (hw.take i)
    have h3 : 0 ≤ val (l.drop (i + 1)) := val_nonneg fun x hx => hw x (List.mem_of_mem_drop hx)
    have h4 := hw.getD i
    have h5 := powB_pos i
    have h6 : 0 < 4294967296 ^ i * (l.getD i 0 + 4294967296 * val (l.drop (i + 1))) := Int.mul_pos h5 (by omega)
    omega

theorem L114_spec {l : List Int} (hw : Wf l) (hl : l.length < 1000000000) : ∃ k : Int, L114 (l, (), ()) = some ((k, ()), ()) ∧ (0 ≤ k ↔ val l ≠ 0) := by
  obtain ⟨z, h1, hz⟩ := limL_ind (f := S114_2 L104) (fun x => l.length - x.1.2.2.2.1.toNat)
    (fun x => ∃ i : Nat, x = ((l, (), (l.length : Int), (i : Int), ()), ()) ∧ ∀ j, j < i → l.getD j 0 = 0)
    (fun z => (∃ i : Nat, z = .inl (((i : Int), ()), ()) ∧ val l ≠ 0) ∨ (z = .inr ((), ()) ∧ val l = 0)) (by
    rintro x ⟨i, rfl, hi⟩
    have e := S114_2_eq L104 l (l.length : Int) (i : Int)
    by_cases h0 : i < l.length
    · have p0 : (0 : Int) ≤ (i : Int) := by omega
      have p1 : (i : Int) < (l.length : Int) := by omega
      have e6 : IntKind.i64.wrap ((i : Int) + 1) = ((i + 1 : Nat) : Int) := by rw [wi (by omega) (by omega)]; omega
      simp only [decide_eq_true_eq, p0, p1, if_true, Int.toNat_natCast, e6] at e
      rw [show L104 (l.getD i 0, ()) = _ from F104_eq _] at e
      simp only [Option.bind_some] at e
      by_cases h2 : l.getD i 0 = 0
      · have p2 : ¬ (!l.getD i 0 == 0) = true := by rw [h2]; decide
        rw [if_neg p2] at e
        refine .inl ⟨_, e, ⟨i + 1, rfl, fun j hj => ?_⟩, by simp only [Int.toNat_natCast]; omega⟩
        by_cases hj' : j < i
        · exact hi j hj'
        · obtain rfl : j = i := by omega
          exact h2
      · have p2 : (!l.getD i 0 == 0) = true := by
          rw [Bool.not_eq_true', beq_eq_false_iff_ne]
          exact h2
        rw [if_pos p2] at e
        exact .inr ⟨_, e, .inl ⟨i, rfl, (val_ne hw).2 ⟨i, h0, h2⟩⟩⟩
    · right
      have p1 : ¬ (i : Int) < (l.length : Int) := by omega
      simp only [decide_eq_true_eq, p1, if_false] at e
      exact ⟨_, e, .inr ⟨rfl, val_zero fun k hk => hi k (by omega)⟩⟩) ((l, (), (l.length : Int), 0, ()), ()) ⟨0, rfl, by intro j hj; omega⟩
  have h1 : Lg114_2 ((l, (), (l.length : Int), 0, ()), ()) = some z := h1
  have hF : L114 (l, (), ()) = _ := F114_eq Lg114_2 l
  rw [h1] at hF
  rcases hz with ⟨i, rfl, hv⟩ | ⟨rfl, hv⟩
  · exact ⟨(i : Int), hF, fun _ => hv, fun _ => by omega⟩
  · exact ⟨-1, hF, fun h => by omega, fun h => (h hv).elim⟩

theorem L103_spec {l : List Int} (hw : Wf l) (hl : l.length < 1000000000) : L103 (l, (), ()) = some ((decide (val l ≠ 0), ()), ()) := by
  obtain ⟨k, h1, h2⟩ := L114_spec hw hl
  have hF : L103 (l, (), ()) = _ := F103_eq L114 l
  rw [h1] at hF
  rw [hF]
  simp only [Option.bind_some, ge_iff_le]
  rw [decide_eq_decide.2 h2]

theorem val_take_mod (n w : Nat) (h : w ≤ (lim n).length) : val ((lim n).take w) = ((n % 2 ^ (32 * w) : Nat) : Int) := by
  have h1 := val_split (lim n) w h
  have h2 := val_take_lt (Wf_lim n) w h
  have h3 := val_nonneg ((Wf_lim n).take w)
  rw [val_lim] at h1
  rw [← B_pow]
  have h4 := Int.ediv_emod_unique (a := (n : Int)) (q := val ((lim n).drop w)) (r := val ((lim n).take w)) (powB_pos w)
  have h5 := h4.2 ⟨h1.symm, h3, h2⟩
  rw [← h5.2, ← castB]
  rfl

theorem S77_step {a n i m : Nat} {lost : Bool} {r : List Int} (hm : m = (lim a).length - n / 32) (hn : n < 1000000) (ha : (lim a).length < 1000000) (hi : i < m) (hr : r.length = m) :
    S77_6 L71 ((lim a, (n : Int), lost, (), (m : Int), (i : Int), ()), (r, ())) = some (.inl ((lim a, (n : Int), lost, (), (m : Int), ((i + 1 : Nat) : Int), ()), (r.set i ((lb (a / 2 ^ n) i : Nat) : Int), ()))) := by
  rw [S77_6_eq, wi_div (by omega)]
  have e1 : IntKind.i64.wrap ((i : Int) + ((n / 32 : Nat) : Int)) = ((i + n / 32 : Nat) : Int) := by rw [wi (by omega) (by omega)]; omega
  have e2 : IntKind.i64.wrap (((i + n / 32 : Nat) : Int) + 1) = ((i + n / 32 + 1 : Nat) : Int) := by rw [wi (by omega) (by omega)]; omega
  have e3 := wi_mod n
  have e4 : IntKind.i64.wrap ((i : Int) + 1) = ((i + 1 : Nat) : Int) := by rw [wi (by omega) (by omega)]; omega
  have p1 : (i : Int) < (m : Int) := by omega
  have p2 : (0 : Int) ≤ ((i + n / 32 : Nat) : Int) := by omega
  have p3 : ((i + n / 32 : Nat) : Int) < ((lim a).length : Int) := by omega
  have p4 : ¬ ((n % 32 : Nat) : Int) < 0 := by omega
  have p5 : (0 : Int) ≤ (i : Int) := by omega
  have p6 : (i : Int) < (r.length : Int) := by omega
  have p7 : min (n % 32) 64 = n % 32 := by omega
  have l1 := lb_lt a (i + n / 32 + 1)
  have l2 := lb_lt a (i + n / 32)
  have q : L71 (lim a, ((i + n / 32 + 1 : Nat) : Int), ()) = _ := F71_spec (a := lim a) (i + n / 32 + 1)
  rw [e1, e2, q]
  simp only [Option.bind_some, decide_eq_true_eq, p1, p2, p3, p4, p5, p6, p7, e3, e4, if_true, if_false, Int.toNat_natCast, limB]
  have e5 : IntKind.u64.wrap (IntKind.u64.wrap (lb a (i + n / 32 + 1) : Int) * 2 ^ 32) = ((lb a (i + n / 32 + 1) * 2 ^ 32 : Nat) : Int) := by
    rw [w64 (n := (lb a (i + n / 32 + 1) : Int)) (by omega) (by omega)]
    have : (lb a (i + n / 32 + 1) : Int) * 2 ^ 32 = ((lb a (i + n / 32 + 1) * 2 ^ 32 : Nat) : Int) := by simp
    rw [this]
    exact w64 (by omega) (by omega)
  rw [e5, w64 (n := (lb a (i + n / 32) : Int)) (by omega) (by omega), or64 (by omega) (by omega), fdiv_pow, w32m]
  have hd := lb_down (v := a) (s := n % 32) (w := n / 32) (i := i)
  rcases hd with hd | hd
  · rw [show 32 * (n / 32) + n % 32 = n by omega] at hd
    rw [← hd]
    rfl
  · omega

theorem Lg77_6_spec {a n : Nat} {lost : Bool} (hn : n < 1000000) (ha : (lim a).length < 1000000) (h : n / 32 < (lim a).length) :
    ∃ r, Lg77_6 ((lim a, (n : Int), lost, (), (((lim a).length - n / 32 : Nat) : Int), 0, ()), (List.replicate ((lim a).length - n / 32) 0, ())) = some ((lost, (), ()), (r, ())) ∧ Wf r ∧ val r = ((a / 2 ^ n : Nat) : Int) ∧ r.length < 1000000 := by
  obtain ⟨m, hm⟩ : ∃ m, m = (lim a).length - n / 32 := ⟨_, rfl⟩
  obtain ⟨z, h1, r, rfl, hr, hdig⟩ := limL_ind (f := S77_6 L71) (fun x => m - x.1.2.2.2.2.2.1.toNat)
    (fun x => ∃ (i : Nat) (r : List Int), x = ((lim a, (n : Int), lost, (), (m : Int), (i : Int), ()), (r, ())) ∧ r.length = m ∧ i ≤ m ∧ ∀ j, j < i → r.getD j 0 = (lb (a / 2 ^ n) j : Int))
    (fun z => ∃ r, z = ((lost, (), ()), (r, ())) ∧ r.length = m ∧ ∀ j, j < m → r.getD j 0 = (lb (a / 2 ^ n) j : Int)) (by
    rintro x ⟨i, r, rfl, hr, hi, hd⟩
    by_cases hlt : i < m
    · left
      refine ⟨_, S77_step hm hn ha hlt hr, ⟨i + 1, _, rfl, by rw [List.length_set]; exact hr, by omega, fun j hj => ?_⟩, by simp only [Int.toNat_natCast]; omega⟩
      rw [getD_set]
      by_cases hji : i = j
      · subst hji
        rw [if_pos ⟨rfl, by omega⟩]
      · rw [if_neg (by omega)]
        exact hd j (by omega)
    · right
      obtain rfl : i = m := by omega
      refine ⟨_, ?_, r, rfl, hr, hd⟩
      rw [S77_6_eq, if_neg (by simp)]) ((lim a, (n : Int), lost, (), (m : Int), 0, ()), (List.replicate m 0, ())) ⟨0, _, rfl, by simp, by omega, by intro j hj; omega⟩
  have hlt : a / 2 ^ n < 4294967296 ^ r.length := by
    have h2 := lim_lt a
    rw [B_pow] at h2 ⊢
    refine (Nat.div_lt_iff_lt_mul (Nat.two_pow_pos n)).2 (Nat.lt_of_lt_of_le h2 ?_)
    rw [← Nat.pow_add]
    exact Nat.pow_le_pow_right (by decide) (by omega)
  have hf := val_of_limbs hlt (by rw [hr]; exact hdig)
  refine ⟨r, ?_, hf.1, hf.2, by omega⟩
  rw [← hm]
  exact h1

/-- down. -/
theorem L77_spec {a n : Nat} (ha : (lim a).length < 1000000) (hn : n < 1000000) : L77 (lim a, (n : Int), ()) = some ((lim (a / 2 ^ n), decide (a % 2 ^ n ≠ 0), ()), ()) := by
  have hw := wi_div (j := n) (by omega)
  show F77 L96 L103 Lg77_6 (lim a, (n : Int), ()) = _
  rw [F77_eq]
  by_cases hge : (lim a).length ≤ n / 32
  · have hlt : a < 2 ^ n := by
      have h2 := lim_lt a
      rw [B_pow] at h2
      exact Nat.lt_of_lt_of_le h2 (Nat.pow_le_pow_right (by decide) (by omega))
    have p1 : ((n / 32 : Nat) : Int) ≥ ((lim a).length : Int) := by omega
    rw [hw, if_pos (by rw [decide_eq_true_eq]; exact p1), Nat.div_eq_of_lt hlt, Nat.mod_eq_of_lt hlt, lim_zero]
    congr 4
    rw [decide_eq_decide]
    constructor
    · rintro h rfl
      rw [lim_zero] at h
      simp at h
    · intro h
      rcases Nat.eq_zero_or_pos (lim a).length with q | q
      · exact (h (lim_eq_nil.1 (List.eq_nil_of_length_eq_zero q))).elim
      · omega
  · have hlt : n / 32 < (lim a).length := by omega
    have p1 : ¬ ((n / 32 : Nat) : Int) ≥ ((lim a).length : Int) := by omega
    have p2 : (0 : Int) ≤ ((n / 32 : Nat) : Int) := by omega
    have p3 : ((n / 32 : Nat) : Int) ≤ ((lim a).length : Int) := by omega
    have p3' : ((n / 32 : Nat) : Int) < ((lim a).length : Int) := by omega
    have e1 : IntKind.i64.wrap (((lim a).length : Int) - ((n / 32 : Nat) : Int)) = (((lim a).length - n / 32 : Nat) : Int) := by rw [wi (by omega) (by omega)]; omega
    have p4 : (0 : Int) ≤ (((lim a).length - n / 32 : Nat) : Int) := by omega
    have p5 : (((lim a).length - n / 32 : Nat) : Int) ≤ ((4294967296 : Nat) : Int) := by omega
    have e2 := wi_mod n
    have e3 : IntKind.i64.wrap (32 - ((n % 32 : Nat) : Int)) = ((32 - n % 32 : Nat) : Int) := by rw [wi (by omega) (by omega)]; omega
    have p6 : ¬ ((32 - n % 32 : Nat) : Int) < 0 := by omega
    have e4 : min (32 - n % 32) 32 = 32 - n % 32 := by omega
    simp only [hw, e1, e2, e3, e4, decide_eq_true_eq, p1, p2, p3, p3', p4, p5, p6, if_true, if_false, Int.toNat_natCast, Int.le_refl, List.length_replicate, limB]
    rw [L103_spec ((Wf_lim a).take _) (by rw [List.length_take]; omega), val_take_mod a _ (by omega)]
    simp only [Option.bind_some]
    have hsplit : a % 2 ^ n = a % 2 ^ (32 * (n / 32)) + 2 ^ (32 * (n / 32)) * (a / 2 ^ (32 * (n / 32)) % 2 ^ (n % 32)) := by
      rw [← Nat.mod_mul, ← Nat.pow_add, show 32 * (n / 32) + n % 32 = n by omega]
    have hpp := Nat.two_pow_pos (32 * (n / 32))
    by_cases hc : a % 2 ^ (32 * (n / 32)) = 0
    · have q1 : ¬ decide (((a % 2 ^ (32 * (n / 32)) : Nat) : Int) ≠ 0) = true := by
        rw [decide_eq_true_eq]
        omega
      rw [if_neg q1]
      have l0 := lb_lt a (n / 32)
      have f1 : IntKind.u32.wrap (IntKind.u32.wrap ((lb a (n / 32) : Int) * 2 ^ (32 - n % 32)) * 2 ^ 0) = ((lb a (n / 32) * 2 ^ (32 - n % 32) % 2 ^ 32 : Nat) : Int) := by
        have f2 : (lb a (n / 32) : Int) * 2 ^ (32 - n % 32) = ((lb a (n / 32) * 2 ^ (32 - n % 32) : Nat) : Int) := by simp
        rw [f2, w32m, w32m, Int.pow_zero, Int.mul_one]
        omega
      have f3 : lb a (n / 32) * 2 ^ (32 - n % 32) % 2 ^ 32 = (a / 2 ^ (32 * (n / 32)) % 2 ^ (n % 32)) * 2 ^ (32 - n % 32) := by
        have f4 : (2 : Nat) ^ 32 = 2 ^ (n % 32) * 2 ^ (32 - n % 32) := by
          rw [← Nat.pow_add]
          congr 1
          omega
        unfold lb
        rw [f4, Nat.mul_mod_mul_right, Nat.mod_mul_right_mod]
      have hq := Nat.two_pow_pos (32 - n % 32)
      rw [f1, f3]
      by_cases hz : a / 2 ^ (32 * (n / 32)) % 2 ^ (n % 32) = 0
      · rw [hz, Nat.zero_mul]
        have q2 : ¬ (!((0 : Nat) : Int) == 0) = true := by decide
        rw [if_neg q2]
        obtain ⟨r, h1, h2, h3, h4⟩ := Lg77_6_spec (lost := false) hn ha hlt
        rw [h1]
        simp only [Option.bind_some]
        rw [L96_spec h2 (by omega), h3, hsplit, hc, hz]
        rfl
      · have hz2 : ¬ a / 2 ^ (32 * (n / 32)) % 2 ^ (n % 32) * 2 ^ (32 - n % 32) = 0 := by
          intro hh
          rcases Nat.mul_eq_zero.1 hh with hh | hh
          · exact hz hh
          · omega
        have q2 : (!((a / 2 ^ (32 * (n / 32)) % 2 ^ (n % 32) * 2 ^ (32 - n % 32) : Nat) : Int) == 0) = true := by
          rw [Bool.not_eq_true', beq_eq_false_iff_ne]
          omega
        have q3 : n % 32 ≠ 0 := by
          intro q3
          rw [q3, Nat.pow_zero, Nat.mod_one] at hz
          exact hz rfl
        have q4 : decide (((n % 32 : Nat) : Int) > 0) = true := by
          rw [decide_eq_true_eq]
          omega
        rw [if_pos q2, q4]
        obtain ⟨r, h1, h2, h3, h4⟩ := Lg77_6_spec (lost := true) hn ha hlt
        rw [h1]
        simp only [Option.bind_some]
        rw [L96_spec h2 (by omega), h3]
        have q5 : decide (a % 2 ^ n ≠ 0) = true := by
          rw [decide_eq_true_eq, hsplit]
          have := Nat.mul_pos hpp (Nat.pos_of_ne_zero hz)
          omega
        rw [q5]
        rfl
    · have q1 : decide (((a % 2 ^ (32 * (n / 32)) : Nat) : Int) ≠ 0) = true := by
        rw [decide_eq_true_eq]
        omega
      rw [if_pos q1]
      obtain ⟨r, h1, h2, h3, h4⟩ := Lg77_6_spec (lost := true) hn ha hlt
      rw [h1]
      simp only [Option.bind_some]
      rw [L96_spec h2 (by omega), h3]
      have q5 : decide (a % 2 ^ n ≠ 0) = true := by
        rw [decide_eq_true_eq, hsplit]
        omega
      rw [q5]
      rfl
end Go.Proofs.Rf
/- The guess of a long division's digit. -/
namespace Go.Proofs.Rf
open Go Go.RowKit

/-- A window of the dividend and the divisor, by their highest limbs. -/
structure Win (U V P x y z V1 V2 low vlow : Int) : Prop where
  hU : U = low + P * (z + 4294967296 * y + 18446744073709551616 * x)
  hV : V = vlow + P * (V2 + 4294967296 * V1)
  l0 : 0 ≤ low
  l1 : low < P
  v0 : 0 ≤ vlow
  v1 : vlow < P
  x0 : 0 ≤ x
  y0 : 0 ≤ y
  y1 : y < 4294967296
  z0 : 0 ≤ z
  z1 : z < 4294967296
  a0 : 2147483648 ≤ V1
  a1 : V1 < 4294967296
  b0 : 0 ≤ V2
  b1 : V2 < 4294967296
  lt : U < 4294967296 * V

section
variable {U V P x y z V1 V2 low vlow : Int}

theorem Win.P_pos (h : Win U V P x y z V1 V2 low vlow) : 0 < P := by
  have := h.l0
  have := h.l1
  omega

theorem Win.V_pos (h : Win U V P x y z V1 V2 low vlow) : 0 < V := by
  have h1 := h.P_pos
  have h2 := h.a0
  have h3 := h.b0
  have h4 : 0 < P * (V2 + 4294967296 * V1) := Int.mul_pos h1 (by omega)
  have h5 := h.hV
  have h6 := h.v0
  omega

theorem Win.U_lt (h : Win U V P x y z V1 V2 low vlow) : U < P * (z + 4294967296 * y + 18446744073709551616 * x + 1) := by
  rw [h.hU]
  have := h.l1
  grind

theorem Win.V_ge (h : Win U V P x y z V1 V2 low vlow) : P * (V2 + 4294967296 * V1) ≤ V := by
  rw [h.hV]
  have := h.v0
  omega

theorem Win.V_lt (h : Win U V P x y z V1 V2 low vlow) : V < P * (V2 + 1 + 4294967296 * V1) := by
  rw [h.hV]
  have := h.v1
  grind

/-- The highest limb is not above the divisor's. -/
theorem Win.x_le (h : Win U V P x y z V1 V2 low vlow) : x ≤ V1 := by
  rcases Int.lt_or_le V1 x with q | q
  · exfalso
    have h1 := h.P_pos
    have h2 := h.V_lt
    have h3 := h.lt
    have h4 := h.hU
    have h5 := h.l0
    have h6 : P * (18446744073709551616 * (V1 + 1)) ≤ P * (18446744073709551616 * x) := Int.mul_le_mul_of_nonneg_left (by omega) (by omega)
    have h7 : 0 ≤ P * (z + 4294967296 * y) := Int.mul_nonneg (by omega) (by have := h.y0; have := h.z0; omega)
    have h8 : P * (V2 + 1) ≤ P * 4294967296 := Int.mul_le_mul_of_nonneg_left (by have := h.b1; omega) (by omega)
    grind
  · exact q

theorem Win.init (h : Win U V P x y z V1 V2 low vlow) : U < ((x * 4294967296 + y) / V1 + 1) * V := by
  have h1 := h.P_pos
  have h2 : x * 4294967296 + y < ((x * 4294967296 + y) / V1 + 1) * V1 := Int.lt_ediv_add_one_mul_self _ (by have := h.a0; omega)
  have hg : 0 ≤ (x * 4294967296 + y) / V1 := Int.ediv_nonneg (by have := h.x0; have := h.y0; omega) (by have := h.a0; omega)
  generalize (x * 4294967296 + y) / V1 = g at *
  have h3 := h.U_lt
  have h4 : (g + 1) * (P * (V2 + 4294967296 * V1)) ≤ (g + 1) * V := Int.mul_le_mul_of_nonneg_left h.V_ge (by omega)
  have h5 : 0 ≤ (g + 1) * (P * V2) := Int.mul_nonneg (by omega) (Int.mul_nonneg (by omega) h.b0)
  have h6 : P * 4294967296 * (x * 4294967296 + y + 1) ≤ P * 4294967296 * ((g + 1) * V1) := Int.mul_le_mul_of_nonneg_left (by omega) (by omega)
  have h7 : P * (z + 1) ≤ P * 4294967296 := Int.mul_le_mul_of_nonneg_left (by have := h.z1; omega) (by omega)
  grind

theorem Win.dec (h : Win U V P x y z V1 V2 low vlow) {g r : Int} (hg : 0 ≤ g) (hr : g * V1 + r = x * 4294967296 + y) (hd : g * V2 > r * 4294967296 + z) : U < g * V := by
  have h1 := h.P_pos
  have h2 := h.U_lt
  have h3 : g * (P * (V2 + 4294967296 * V1)) ≤ g * V := Int.mul_le_mul_of_nonneg_left h.V_ge hg
  have h4 : P * (z + 4294967296 * y + 18446744073709551616 * x + 1) ≤ P * (g * V2 + 4294967296 * (g * V1)) := Int.mul_le_mul_of_nonneg_left (by omega) (by omega)
  grind

theorem Win.fin (h : Win U V P x y z V1 V2 low vlow) {g r : Int} (hg : 0 ≤ g) (hg1 : g < 4294967296) (hr : g * V1 + r = x * 4294967296 + y) (hd : g * V2 ≤ r * 4294967296 + z) : (g - 1) * V ≤ U := by
  have h1 := h.P_pos
  have hU := h.hU
  have hl := h.l0
  rcases (show g = 0 ∨ 1 ≤ g by omega) with rfl | hg2
  · have := h.V_pos
    have h5 : 0 ≤ P * (z + 4294967296 * y + 18446744073709551616 * x) := Int.mul_nonneg (by omega) (by have := h.x0; have := h.y0; have := h.z0; omega)
    omega
  · have h3 : (g - 1) * V ≤ (g - 1) * (P * (V2 + 1 + 4294967296 * V1)) := Int.mul_le_mul_of_nonneg_left (by have := h.V_lt; omega) (by omega)
    have h4 : P * (g * V2 + 4294967296 * (g * V1)) ≤ P * (z + 4294967296 * y + 18446744073709551616 * x) := Int.mul_le_mul_of_nonneg_left (by omega) (by omega)
    have h5 : P * (g - 1) ≤ P * (4294967296 * V1) := Int.mul_le_mul_of_nonneg_left (by have := h.a0; omega) (by omega)
    have h6 : 0 ≤ P * V2 := Int.mul_nonneg (by omega) h.b0
    grind
end

theorem or_limbs {c x : Int} (hc : 0 ≤ c) (hc1 : c < 4294967296) (hx : 0 ≤ x) (hx1 : x < 4294967296) : bitop .or .u64 (IntKind.u64.wrap (c * 2 ^ 32)) x = c * 4294967296 + x := by
  have e2 : IntKind.u64.wrap (c * 2 ^ 32) = c * 4294967296 := w64 (by omega) (by omega)
  rw [e2]
  obtain ⟨c', rfl⟩ := Int.eq_ofNat_of_zero_le hc
  obtain ⟨x', rfl⟩ := Int.eq_ofNat_of_zero_le hx
  have := or64 (x := c' * 4294967296) (y := x') (by omega) (by omega)
  rw [or_parts (k := 32) (by omega)] at this
  simp only [Int.natCast_mul, Int.natCast_add] at this
  exact this

/-- What the guess is when its loop ends. -/
structure Guessed (U V g : Int) : Prop where
  g0 : 0 ≤ g
  g1 : g < 4294967296
  lo : (g - 1) * V ≤ U
  hi : U < (g + 1) * V

theorem S78_18_spec {U V P x y z V1 V2 low vlow : Int} (h : Win U V P x y z V1 V2 low vlow) {sh : Int} {v u q : List Int} {n j : Nat} (hv1 : v.getD (n - 1) 0 = V1) (hv2 : v.getD (n - 2) 0 = V2) (hz : u.getD (j + n - 2) 0 = z)
    (hn : 2 ≤ n) (hnv : v.length = n) (hj : j + n < u.length) (hu : u.length < 1000000000) :
    ∃ g, Guessed U V g ∧ Lg78_18 ((sh, v, (), (n : Int), (), (j : Int), (x * 4294967296 + y) / V1, (x * 4294967296 + y) % V1, ()), (u, q, ())) = some ((sh, v, (), (n : Int), (), (j : Int), g, ()), (u, q, ())) := by
  have ha0 := h.a0
  have ha1 := h.a1
  have hb0 := h.b0
  have hb1 := h.b1
  have hz0 := h.z0
  have hz1 := h.z1
  have hx := h.x_le
  have hx0 := h.x0
  have hy0 := h.y0
  have hy1 := h.y1
  have m1 : IntKind.i64.wrap ((n : Int) - 1) = ((n - 1 : Nat) : Int) := by rw [wi (by omega) (by omega)]; omega
  have m2 : IntKind.i64.wrap ((n : Int) - 2) = ((n - 2 : Nat) : Int) := by rw [wi (by omega) (by omega)]; omega
  have m3 : IntKind.i64.wrap ((j : Int) + (n : Int)) = ((j + n : Nat) : Int) := by rw [wi (by omega) (by omega)]; omega
  have m4 : IntKind.i64.wrap (((j + n : Nat) : Int) - 2) = ((j + n - 2 : Nat) : Int) := by rw [wi (by omega) (by omega)]; omega
  have p1 : (0 : Int) ≤ ((n - 1 : Nat) : Int) := by omega
  have p2 : ((n - 1 : Nat) : Int) < (v.length : Int) := by omega
  have p3 : (0 : Int) ≤ ((n - 2 : Nat) : Int) := by omega
  have p4 : ((n - 2 : Nat) : Int) < (v.length : Int) := by omega
  have p5 : (0 : Int) ≤ ((j + n - 2 : Nat) : Int) := by omega
  have p6 : ((j + n - 2 : Nat) : Int) < (u.length : Int) := by omega
  have e1 : IntKind.u64.wrap V1 = V1 := w64 (by omega) (by omega)
  have e2 : IntKind.u64.wrap V2 = V2 := w64 (by omega) (by omega)
  have e3 : IntKind.u64.wrap z = z := w64 (by omega) (by omega)
  have tq := Int.mul_ediv_add_emod (x * 4294967296 + y) V1
  have tr0 := Int.emod_nonneg (x * 4294967296 + y) (show V1 ≠ 0 by omega)
  have tr1 := Int.emod_lt_of_pos (x * 4294967296 + y) (show 0 < V1 by omega)
  have tg0 : 0 ≤ (x * 4294967296 + y) / V1 := Int.ediv_nonneg (by omega) (by omega)
  have hinit := h.init
  have tgb : (x * 4294967296 + y) / V1 ≤ 4294967297 := by
    rcases Int.lt_or_le 4294967297 ((x * 4294967296 + y) / V1) with q | q
    · exfalso
      have h6 : V1 * 4294967298 ≤ V1 * ((x * 4294967296 + y) / V1) := Int.mul_le_mul_of_nonneg_left (by omega) (by omega)
      omega
    · exact q
  generalize hG : (x * 4294967296 + y) / V1 = G at *
  generalize hR : (x * 4294967296 + y) % V1 = R at *
  obtain ⟨w, h1, g, hg, hw⟩ := limL_ind (f := S78_18) (fun s => s.1.2.2.2.2.2.2.1.toNat)
    (fun s => ∃ g r : Int, s = ((sh, v, (), (n : Int), (), (j : Int), g, r, ()), (u, q, ())) ∧ 0 ≤ g ∧ g ≤ 4294967297 ∧ 0 ≤ r ∧ r < 4294967296 ∧ g * V1 + r = x * 4294967296 + y ∧ U < (g + 1) * V)
    (fun w => ∃ g, Guessed U V g ∧ w = ((sh, v, (), (n : Int), (), (j : Int), g, ()), (u, q, ()))) (by
    rintro s ⟨g, r, rfl, hg, hgb, hr, hr1, ht, hu1⟩
    have e := S78_18_eq sh v (n : Int) (j : Int) g r u q
    have e4 : IntKind.u64.wrap (r + V1) = r + V1 := w64 (by omega) (by omega)
    have e5 : 1 ≤ g → IntKind.u64.wrap (g - 1) = g - 1 := fun q => w64 (by omega) (by omega)
    have e6 := or_limbs hr hr1 hz0 hz1
    simp only [m1, m2, m3, m4, p1, p2, p3, p4, p5, p6, if_true, Int.toNat_natCast, hv1, hv2, hz, e1, e2, e3, e4, e6, decide_eq_true_eq] at e
    have next : 1 ≤ g → U < g * V → (g - 1) * V1 + (r + V1) = x * 4294967296 + y ∧ U < (g - 1 + 1) * V := by
      intro h7 h8
      refine ⟨by grind, by rw [show g - 1 + 1 = g by omega]; exact h8⟩
    have brk : 1 ≤ g → U < g * V → g ≤ 4294967296 → r + V1 ≥ 4294967296 → Guessed U V (g - 1) := by
      intro h7 h8 h9 h10
      obtain ⟨h11, h12⟩ := next h7 h8
      refine ⟨by omega, by omega, h.fin (by omega) (by omega) h11 ?_, h12⟩
      have h13 : (g - 1) * V2 ≤ 4294967296 * 4294967296 := Int.mul_le_mul (by omega) (by omega) hb0 (by decide)
      omega
    by_cases c1 : g ≥ 4294967296
    · have h8 : U < g * V := by
        have h9 := h.lt
        have h10 : 4294967296 * V ≤ g * V := Int.mul_le_mul_of_nonneg_right c1 (Int.le_of_lt h.V_pos)
        omega
      rw [if_pos c1] at e
      by_cases c2 : r + V1 ≥ 4294967296
      · right
        rw [if_pos c2, e5 (by omega)] at e
        refine ⟨_, e, g - 1, brk (by omega) h8 ?_ c2, rfl⟩
        rcases (show g = 4294967297 ∨ g ≤ 4294967296 by omega) with q | q
        · exfalso
          subst q
          omega
        · exact q
      · left
        rw [if_neg c2, e5 (by omega)] at e
        obtain ⟨h11, h12⟩ := next (by omega) h8
        exact ⟨_, e, ⟨g - 1, r + V1, rfl, by omega, by omega, by omega, by omega, h11, h12⟩, by simp only; omega⟩
    · rw [if_neg c1] at e
      have e7 : IntKind.u64.wrap (g * V2) = g * V2 := by
        have h13 : g * V2 ≤ 4294967296 * V2 := Int.mul_le_mul_of_nonneg_right (by omega) hb0
        exact w64 (Int.mul_nonneg hg hb0) (by omega)
      rw [e7] at e
      by_cases c3 : g * V2 > r * 4294967296 + z
      · have h7 : 1 ≤ g := by
          rcases (show g = 0 ∨ 1 ≤ g by omega) with q | q
          · subst q
            omega
          · exact q
        have h8 := h.dec hg ht c3
        rw [if_pos c3] at e
        by_cases c2 : r + V1 ≥ 4294967296
        · right
          rw [if_pos c2, e5 h7] at e
          exact ⟨_, e, g - 1, brk h7 h8 (by omega) c2, rfl⟩
        · left
          rw [if_neg c2, e5 h7] at e
          obtain ⟨h11, h12⟩ := next h7 h8
          exact ⟨_, e, ⟨g - 1, r + V1, rfl, by omega, by omega, by omega, by omega, h11, h12⟩, by simp only; omega⟩
      · right
        rw [if_neg c3] at e
        exact ⟨_, e, g, ⟨hg, by omega, h.fin hg (by omega) ht (by omega), hu1⟩, rfl⟩) ((sh, v, (), (n : Int), (), (j : Int), G, R, ()), (u, q, ())) ⟨G, R, rfl, tg0, tgb, tr0, by omega, by rw [Int.mul_comm]; exact tq, hinit⟩
  rw [hw] at h1
  exact ⟨g, hg, h1⟩
end Go.Proofs.Rf
/- A long division's digit: times, difference, back. -/
namespace Go.Proofs.Rf
open Go Go.RowKit

/-- What is kept while limbs are changed from j on. -/
structure Kp (u r : List Int) (j i : Nat) : Prop where
  wf : Wf r
  len : r.length = u.length
  lo : r.take j = u.take j
  hi : ∀ k, j + i ≤ k → r.getD k 0 = u.getD k 0

theorem Kp.refl {u : List Int} (hw : Wf u) (j : Nat) : Kp u u j 0 := ⟨hw, rfl, rfl, fun _ _ => rfl⟩

theorem Kp.set {u r : List Int} {j i : Nat} (h : Kp u r j i) {v : Int} (h0 : 0 ≤ v) (h1 : v < 4294967296) : Kp u (r.set (j + i) v) j (i + 1) := by
  refine ⟨h.wf.set _ h0 h1, by rw [List.length_set]; exact h.len, by rw [take_set_at (by omega)]; exact h.lo, fun k hk => ?_⟩
  rw [getD_set, if_neg (by omega)]
  exact h.hi k (by omega)

theorem powB_add (i j : Nat) : (4294967296 : Int) ^ (i + j) = 4294967296 ^ i * 4294967296 ^ j := Int.pow_add ..

theorem S78_24_step {sh g c b : Int} {v u r q : List Int} {n j i : Nat} (wv : Wf v) (hk : Kp u r j i) (hg : 0 ≤ g) (hg1 : g < 4294967296) (hc : 0 ≤ c) (hc1 : c < 4294967296) (hb : 0 ≤ b) (hb1 : b ≤ 1) (hnv : v.length = n) (hi : i < n) (hj : j + n < u.length) (hu : u.length < 1000000000) :
    S78_24 L106 ((sh, v, (), (n : Int), (), (j : Int), g, c, b, v, (v.length : Int), (i : Int), ()), (r, q, ())) =
      some (.inl ((sh, v, (), (n : Int), (), (j : Int), g, (g * v.getD i 0 + c) / 4294967296, bor (r.getD (j + i) 0 - (g * v.getD i 0 + c) % 4294967296 - b), v, (v.length : Int), ((i + 1 : Nat) : Int), ()), (r.set (j + i) ((r.getD (j + i) 0 - (g * v.getD i 0 + c) % 4294967296 - b) % 4294967296), q, ()))) := by
  have xv := wv.getD i
  have xr := hk.wf.getD (j + i)
  have hl := hk.len
  rw [S78_24_eq]
  have m1 : IntKind.i64.wrap ((i : Int) + (j : Int)) = ((j + i : Nat) : Int) := by rw [wi (by omega) (by omega)]; omega
  have m2 : IntKind.i64.wrap ((i : Int) + 1) = ((i + 1 : Nat) : Int) := by rw [wi (by omega) (by omega)]; omega
  have p1 : (i : Int) < (v.length : Int) := by omega
  have p2 : (0 : Int) ≤ (i : Int) := by omega
  have p3 : (0 : Int) ≤ ((j + i : Nat) : Int) := by omega
  have p4 : ((j + i : Nat) : Int) < (r.length : Int) := by omega
  have e1 : IntKind.u64.wrap (v.getD i 0) = v.getD i 0 := w64 (by omega) (by omega)
  have b0 : 0 ≤ g * v.getD i 0 := Int.mul_nonneg hg xv.1
  have b1 : g * v.getD i 0 ≤ 4294967295 * 4294967295 := Int.mul_le_mul (by omega) (by omega) xv.1 (by decide)
  have e2 : IntKind.u64.wrap (g * v.getD i 0) = g * v.getD i 0 := w64 b0 (by omega)
  have e3 : IntKind.u64.wrap (g * v.getD i 0 + c) = g * v.getD i 0 + c := w64 (by omega) (by omega)
  simp only [decide_eq_true_eq, m1, m2, p1, p2, p3, p4, if_true, Int.toNat_natCast, e1, e2, e3, w32m]
  have q2 : L106 (r.getD (j + i) 0, (g * v.getD i 0 + c) % 4294967296, b, ()) = _ := F106_spec xr.1 xr.2 (by omega) (by omega) hb hb1
  rw [q2]
  have f1 : (g * v.getD i 0 + c).fdiv (2 ^ 32) = (g * v.getD i 0 + c) / 4294967296 := by rw [Int.fdiv_eq_ediv_of_nonneg _ (by decide)]; rfl
  simp only [Option.bind_some, f1]
  rfl

/-- Times the guess, taken away. -/
theorem Lg78_24_spec {sh g : Int} {v u q : List Int} {n j : Nat} (wv : Wf v) (wu : Wf u) (hg : 0 ≤ g) (hg1 : g < 4294967296) (hnv : v.length = n) (hj : j + n < u.length) (hu : u.length < 1000000000) :
    ∃ (c b : Int) (r : List Int), Lg78_24 ((sh, v, (), (n : Int), (), (j : Int), g, 0, 0, v, (v.length : Int), 0, ()), (u, q, ())) = some ((sh, v, (), (n : Int), (), (j : Int), g, c, b, ()), (r, q, ())) ∧
      Kp u r j n ∧ 0 ≤ c ∧ c < 4294967296 ∧ 0 ≤ b ∧ b ≤ 1 ∧ val r = val u - 4294967296 ^ j * (g * val v) + 4294967296 ^ (j + n) * (c + b) := by
  obtain ⟨z, h1, c, b, r, rfl, h2⟩ := limL_ind (f := S78_24 L106) (fun x => n - x.1.2.2.2.2.2.2.2.2.2.2.2.1.toNat)
    (fun x => ∃ (c b : Int) (r : List Int) (i : Nat), x = ((sh, v, (), (n : Int), (), (j : Int), g, c, b, v, (v.length : Int), (i : Int), ()), (r, q, ())) ∧ i ≤ n ∧ Kp u r j i ∧ 0 ≤ c ∧ c < 4294967296 ∧ 0 ≤ b ∧ b ≤ 1 ∧ val r = val u - 4294967296 ^ j * (g * val (v.take i)) + 4294967296 ^ (j + i) * (c + b))
    (fun z => ∃ (c b : Int) (r : List Int), z = ((sh, v, (), (n : Int), (), (j : Int), g, c, b, ()), (r, q, ())) ∧ Kp u r j n ∧ 0 ≤ c ∧ c < 4294967296 ∧ 0 ≤ b ∧ b ≤ 1 ∧ val r = val u - 4294967296 ^ j * (g * val v) + 4294967296 ^ (j + n) * (c + b)) (by
    rintro x ⟨c, b, r, i, rfl, hi, hk, hc, hc1, hb, hb1, hv⟩
    by_cases hd : i < n
    · left
      have xv := wv.getD i
      have b0 : 0 ≤ g * v.getD i 0 := Int.mul_nonneg hg xv.1
      have b1 : g * v.getD i 0 ≤ 4294967295 * 4294967295 := Int.mul_le_mul (by omega) (by omega) xv.1 (by decide)
      have hst := S78_24_step (sh := sh) (q := q) wv hk hg hg1 hc hc1 hb hb1 hnv hd hj hu
      have xr := hk.wf.getD (j + i)
      obtain ⟨p, hp⟩ : ∃ p, p = g * v.getD i 0 + c := ⟨_, rfl⟩
      rw [← hp] at hst
      obtain ⟨d, hdd⟩ : ∃ d, d = r.getD (j + i) 0 - p % 4294967296 - b := ⟨_, rfl⟩
      rw [← hdd] at hst
      have hz := Int.emod_nonneg d (show (4294967296 : Int) ≠ 0 by decide)
      have hz' := Int.emod_lt_of_pos d (show (0 : Int) < 4294967296 by decide)
      refine ⟨_, hst, ⟨p / 4294967296, bor d, _, i + 1, rfl, by omega, hk.set hz hz', by omega, by omega, (bor_range _).1, (bor_range _).2, ?_⟩, by simp only [Int.toNat_natCast]; omega⟩
      have hlen := hk.len
      rw [val_set (by omega), hv, val_take_succ, show j + (i + 1) = j + i + 1 by omega, powB, powB_add]
      have hpm : p % 4294967296 = p - 4294967296 * (p / 4294967296) := by omega
      have hdm : d % 4294967296 = d + 4294967296 * bor d := by
        unfold bor
        split <;> omega
      rw [hdm]
      generalize bor d = bd at *
      generalize p / 4294967296 = pc' at *
      generalize r.getD (j + i) 0 = R at *
      generalize v.getD i 0 = Vi at *
      generalize (4294967296 : Int) ^ j = A at *
      generalize (4294967296 : Int) ^ i = C at *
      generalize val (v.take i) = T at *
      generalize val u = W at *
      rw [hpm] at hdd
      subst hdd
      have hp2 : pc' * 4294967296 = pc' * 4294967296 := rfl
      subst hp
      grind
    · right
      obtain rfl : i = n := by omega
      refine ⟨_, ?_, c, b, r, rfl, hk, hc, hc1, hb, hb1, ?_⟩
      · rw [S78_24_eq, if_neg (by rw [hnv]; simp)]
      · rw [val_take_all (by omega)] at hv
        exact hv) ((sh, v, (), (n : Int), (), (j : Int), g, 0, 0, v, (v.length : Int), 0, ()), (u, q, ())) ⟨0, 0, u, 0, rfl, by omega, Kp.refl wu j, by decide, by decide, by decide, by decide, by simp [val]⟩
  exact ⟨c, b, r, h1, h2⟩

theorem S78_35_step {sh g c : Int} {v u r q : List Int} {n j i : Nat} (wv : Wf v) (hk : Kp u r j i) (hc : 0 ≤ c) (hc1 : c ≤ 1) (hnv : v.length = n) (hi : i < n) (hj : j + n < u.length) (hu : u.length < 1000000000) :
    S78_35 L107 ((sh, v, (), (n : Int), (), (j : Int), g, c, v, (v.length : Int), (i : Int), ()), (r, q, ())) =
      some (.inl ((sh, v, (), (n : Int), (), (j : Int), g, (r.getD (j + i) 0 + v.getD i 0 + c) / 4294967296, v, (v.length : Int), ((i + 1 : Nat) : Int), ()), (r.set (j + i) ((r.getD (j + i) 0 + v.getD i 0 + c) % 4294967296), q, ()))) := by
  have xv := wv.getD i
  have xr := hk.wf.getD (j + i)
  have hl := hk.len
  rw [S78_35_eq]
  have m1 : IntKind.i64.wrap ((i : Int) + (j : Int)) = ((j + i : Nat) : Int) := by rw [wi (by omega) (by omega)]; omega
  have m2 : IntKind.i64.wrap ((i : Int) + 1) = ((i + 1 : Nat) : Int) := by rw [wi (by omega) (by omega)]; omega
  have p1 : (i : Int) < (v.length : Int) := by omega
  have p2 : (0 : Int) ≤ (i : Int) := by omega
  have p3 : (0 : Int) ≤ ((j + i : Nat) : Int) := by omega
  have p4 : ((j + i : Nat) : Int) < (r.length : Int) := by omega
  simp only [decide_eq_true_eq, m1, m2, p1, p2, p3, p4, if_true, Int.toNat_natCast]
  have q2 : L107 (r.getD (j + i) 0, v.getD i 0, c, ()) = _ := F107_spec xr.1 xr.2 xv.1 xv.2 hc hc1
  rw [q2]
  simp only [Option.bind_some]

/-- The divisor, added back. -/
theorem Lg78_35_spec {sh g : Int} {v u q : List Int} {n j : Nat} (wv : Wf v) (wu : Wf u) (hnv : v.length = n) (hj : j + n < u.length) (hu : u.length < 1000000000) :
    ∃ (c : Int) (r : List Int), Lg78_35 ((sh, v, (), (n : Int), (), (j : Int), g, 0, v, (v.length : Int), 0, ()), (u, q, ())) = some ((sh, v, (), (n : Int), (), (j : Int), g, c, ()), (r, q, ())) ∧
      Kp u r j n ∧ 0 ≤ c ∧ c ≤ 1 ∧ val r = val u + 4294967296 ^ j * val v - 4294967296 ^ (j + n) * c := by
  obtain ⟨z, h1, c, r, rfl, h2⟩ := limL_ind (f := S78_35 L107) (fun x => n - x.1.2.2.2.2.2.2.2.2.2.2.1.toNat)
    (fun x => ∃ (c : Int) (r : List Int) (i : Nat), x = ((sh, v, (), (n : Int), (), (j : Int), g, c, v, (v.length : Int), (i : Int), ()), (r, q, ())) ∧ i ≤ n ∧ Kp u r j i ∧ 0 ≤ c ∧ c ≤ 1 ∧ val r = val u + 4294967296 ^ j * val (v.take i) - 4294967296 ^ (j + i) * c)
    (fun z => ∃ (c : Int) (r : List Int), z = ((sh, v, (), (n : Int), (), (j : Int), g, c, ()), (r, q, ())) ∧ Kp u r j n ∧ 0 ≤ c ∧ c ≤ 1 ∧ val r = val u + 4294967296 ^ j * val v - 4294967296 ^ (j + n) * c) (by
    rintro x ⟨c, r, i, rfl, hi, hk, hc, hc1, hv⟩
    by_cases hd : i < n
    · left
      have xv := wv.getD i
      have xr := hk.wf.getD (j + i)
      have hst := S78_35_step (sh := sh) (g := g) (q := q) wv hk hc hc1 hnv hd hj hu
      obtain ⟨p, hp⟩ : ∃ p, p = r.getD (j + i) 0 + v.getD i 0 + c := ⟨_, rfl⟩
      rw [← hp] at hst
      have hz := Int.emod_nonneg p (show (4294967296 : Int) ≠ 0 by decide)
      have hz' := Int.emod_lt_of_pos p (show (0 : Int) < 4294967296 by decide)
      refine ⟨_, hst, ⟨p / 4294967296, _, i + 1, rfl, by omega, hk.set hz hz', by omega, by omega, ?_⟩, by simp only [Int.toNat_natCast]; omega⟩
      have hlen := hk.len
      rw [val_set (by omega), hv, val_take_succ, show j + (i + 1) = j + i + 1 by omega, powB, powB_add]
      have hpm : p % 4294967296 = p - 4294967296 * (p / 4294967296) := by omega
      rw [hpm]
      generalize p / 4294967296 = pc' at *
      generalize r.getD (j + i) 0 = R at *
      generalize v.getD i 0 = Vi at *
      generalize (4294967296 : Int) ^ j = A at *
      generalize (4294967296 : Int) ^ i = C at *
      generalize val (v.take i) = T at *
      generalize val u = W at *
      subst hp
      grind
    · right
      obtain rfl : i = n := by omega
      refine ⟨_, ?_, c, r, rfl, hk, hc, hc1, ?_⟩
      · rw [S78_35_eq, if_neg (by rw [hnv]; simp)]
      · rw [val_take_all (by omega)] at hv
        exact hv) ((sh, v, (), (n : Int), (), (j : Int), g, 0, v, (v.length : Int), 0, ()), (u, q, ())) ⟨0, u, 0, rfl, by omega, Kp.refl wu j, by decide, by decide, by simp [val]⟩
  exact ⟨c, r, h1, h2⟩
end Go.Proofs.Rf
/- A long division's round. -/
namespace Go.Proofs.Rf
open Go Go.RowKit

theorem drop_val {u r : List Int} {j : Nat} (hlo : r.take j = u.take j) (hr : j ≤ r.length) (hu : j ≤ u.length) : 4294967296 ^ j * val (r.drop j) = 4294967296 ^ j * val (u.drop j) + val r - val u := by
  have h1 := val_split r j hr
  have h2 := val_split u j hu
  rw [hlo] at h1
  omega

theorem drop_ext {u r : List Int} {m : Nat} (hl : r.length = u.length) (h : ∀ k, m ≤ k → r.getD k 0 = u.getD k 0) : r.drop m = u.drop m := by
  refine getD_ext (by simp [hl]) fun k hk => ?_
  rw [List.getD_eq_getElem?_getD, List.getD_eq_getElem?_getD, List.getElem?_drop, List.getElem?_drop]
  have := h (m + k) (by omega)
  rw [List.getD_eq_getElem?_getD, List.getD_eq_getElem?_getD] at this
  exact this

theorem Wf.drop {l : List Int} (h : Wf l) (n : Nat) : Wf (l.drop n) := fun x hx => h x (List.mem_of_mem_drop hx)

/-- What lies above the window is nothing. -/
theorem above_zero {u : List Int} {V : Int} {j n : Nat} (wu : Wf u) (hj : j + n < u.length) (hV : V < 4294967296 ^ n) (h : val (u.drop (j + 1)) < V) : val (u.drop (j + n + 1)) = 0 := by
  have h1 := val_split (u.drop (j + 1)) n (by rw [List.length_drop]; omega)
  rw [List.drop_drop, show j + 1 + n = j + n + 1 by omega] at h1
  have h2 := val_nonneg ((wu.drop (j + 1)).take n)
  have h3 := val_nonneg (wu.drop (j + n + 1))
  rcases (show val (u.drop (j + n + 1)) = 0 ∨ 1 ≤ val (u.drop (j + n + 1)) by omega) with q | q
  · exact q
  · exfalso
    have h4 : (4294967296 : Int) ^ n * 1 ≤ 4294967296 ^ n * val (u.drop (j + n + 1)) := Int.mul_le_mul_of_nonneg_left q (Int.le_of_lt (powB_pos n))
    omega

theorem window_lt {r : List Int} {j n : Nat} (wr : Wf r) (hj : j + n < r.length) (h : val (r.drop (j + n + 1)) = 0) : val (r.drop j) < 4294967296 ^ (n + 1) := by
  have h1 := val_split (r.drop j) (n + 1) (by rw [List.length_drop]; omega)
  rw [List.drop_drop, show j + (n + 1) = j + n + 1 by omega, h, Int.mul_zero, Int.add_zero] at h1
  rw [h1]
  exact val_take_lt (wr.drop j) (n + 1) (by rw [List.length_drop]; omega)

theorem mkWin {u v : List Int} {j n : Nat} (wu : Wf u) (wv : Wf v) (hn : 2 ≤ n) (hnv : v.length = n) (hj : j + n < u.length) (htop : 2147483648 ≤ v.getD (n - 1) 0) (hlt : val (u.drop (j + 1)) < val v) :
    Win (val (u.drop j)) (val v) (4294967296 ^ (n - 2)) (u.getD (j + n) 0) (u.getD (j + n - 1) 0) (u.getD (j + n - 2) 0) (v.getD (n - 1) 0) (v.getD (n - 2) 0) (val ((u.drop j).take (n - 2))) (val (v.take (n - 2))) := by
  have hVn : val v < 4294967296 ^ n := by
    have := val_lt wv
    rw [hnv] at this
    exact this
  have h0 := above_zero wu hj hVn hlt
  have h1 := val_split (u.drop j) (n - 2) (by rw [List.length_drop]; omega)
  rw [List.drop_drop, drop_at (show j + (n - 2) < u.length by omega), drop_at (show j + (n - 2) + 1 < u.length by omega), drop_at (show j + (n - 2) + 1 + 1 < u.length by omega)] at h1
  simp only [val] at h1
  rw [show j + (n - 2) + 1 + 1 + 1 = j + n + 1 by omega, show j + (n - 2) + 1 + 1 = j + n by omega, show j + (n - 2) + 1 = j + n - 1 by omega, show j + (n - 2) = j + n - 2 by omega, h0] at h1
  have h2 := val_split v (n - 2) (by omega)
  rw [drop_at (show n - 2 < v.length by omega), drop_at (show n - 2 + 1 < v.length by omega), List.drop_of_length_le (show v.length ≤ n - 2 + 1 + 1 by omega)] at h2
  simp only [val] at h2
  rw [show n - 2 + 1 = n - 1 by omega] at h2
  have x1 := wu.getD (j + n)
  have x2 := wu.getD (j + n - 1)
  have x3 := wu.getD (j + n - 2)
  have y1 := wv.getD (n - 1)
  have y2 := wv.getD (n - 2)
  refine ⟨?_, ?_, val_nonneg ((wu.drop j).take _), val_take_lt (wu.drop j) _ (by rw [List.length_drop]; omega), val_nonneg (wv.take _), val_take_lt wv _ (by omega), x1.1, x2.1, x2.2, x3.1, x3.2, htop, y1.2, y2.1, y2.2, ?_⟩
  · rw [h1]
    congr 2
    omega
  · rw [h2]
    congr 2
    omega
  · rw [drop_at (show j < u.length by omega)]
    simp only [val]
    have := wu.getD j
    omega

theorem back_ring {W A C g V t c2 k : Int} : W - A * (g * V) + A * (C * 4294967296) * 1 + A * V - A * C * c2 + A * C * (t + c2 - 4294967296 * k - t) = W - A * ((g - 1) * V) + A * (C * 4294967296) * (1 - k) := by grind

/-- A round: a digit, and the rest. -/
theorem S78_14_step {sh : Int} {u v q : List Int} {j n : Nat} (wu : Wf u) (wv : Wf v) (hn : 2 ≤ n) (hnv : v.length = n) (hj : j + n < u.length) (hu : u.length < 1000000000) (hq : j < q.length) (htop : 2147483648 ≤ v.getD (n - 1) 0) (hlt : val (u.drop (j + 1)) < val v) :
    ∃ (g : Int) (r : List Int), S78_14 L106 Lg78_18 Lg78_24 Lg78_35 ((sh, v, (), (n : Int), (), (j : Int), ()), (u, q, ())) = some (.inl ((sh, v, (), (n : Int), (), (j : Int) - 1, ()), (r, q.set j g, ()))) ∧
      0 ≤ g ∧ g < 4294967296 ∧ Wf r ∧ r.length = u.length ∧ val r = val u - 4294967296 ^ j * (g * val v) ∧ val (r.drop j) < val v := by
  have W := mkWin wu wv hn hnv hj htop hlt
  have hVn : val v < 4294967296 ^ n := by
    have := val_lt wv
    rw [hnv] at this
    exact this
  have h0 := above_zero wu hj hVn hlt
  have x1 := wu.getD (j + n)
  have x2 := wu.getD (j + n - 1)
  have y1 := wv.getD (n - 1)
  have hx := W.x_le
  have hU0 := val_nonneg (wu.drop j)
  have hVp := W.V_pos
  obtain ⟨g, hg, h18⟩ := S78_18_spec (sh := sh) (q := q) W rfl rfl rfl hn hnv hj hu
  obtain ⟨c, b, r, h24, hk, hc, hc1, hb, hb1, hv⟩ := Lg78_24_spec (sh := sh) (q := q) (n := n) (j := j) wv wu hg.g0 hg.g1 hnv hj hu
  have hkl := hk.len
  have hrx : r.getD (j + n) 0 = u.getD (j + n) 0 := hk.hi _ (Nat.le_refl _)
  have h106 : L106 (r.getD (j + n) 0, c, b, ()) = _ := F106_spec (hk.wf.getD _).1 (hk.wf.getD _).2 hc hc1 hb hb1
  rw [hrx] at h106
  obtain ⟨d, hd⟩ : ∃ d, d = u.getD (j + n) 0 - c - b := ⟨_, rfl⟩
  rw [← hd] at h106
  have hz := Int.emod_nonneg d (show (4294967296 : Int) ≠ 0 by decide)
  have hz' := Int.emod_lt_of_pos d (show (0 : Int) < 4294967296 by decide)
  have hk1 := hk.set hz hz'
  have hv1 : val (r.set (j + n) (d % 4294967296)) = val u - 4294967296 ^ j * (g * val v) + 4294967296 ^ j * 4294967296 ^ (n + 1) * bor d := by
    rw [val_set (by omega), hv, hrx, powB_add, powB]
    have hdm : d % 4294967296 = d + 4294967296 * bor d := by
      unfold bor
      split <;> omega
    rw [hdm]
    generalize (4294967296 : Int) ^ j = A at *
    generalize (4294967296 : Int) ^ n = C at *
    grind
  have hd1 := drop_val hk1.lo (by rw [hk1.len]; omega) (by omega)
  have hab : val ((r.set (j + n) (d % 4294967296)).drop (j + n + 1)) = 0 := by
    rw [drop_ext hk1.len (fun k hk' => hk1.hi k (by omega))]
    exact h0
  have hE1 := window_lt hk1.wf (by rw [hk1.len]; omega) hab
  have hE0 := val_nonneg (hk1.wf.drop j)
  have hE : val ((r.set (j + n) (d % 4294967296)).drop j) = val (u.drop j) - g * val v + 4294967296 ^ (n + 1) * bor d := by
    refine Int.eq_of_mul_eq_mul_left (show (4294967296 : Int) ^ j ≠ 0 by have := powB_pos j; omega) ?_
    rw [hd1, hv1]
    generalize (4294967296 : Int) ^ j = A at *
    grind
  have m3 : IntKind.i64.wrap ((j : Int) + (n : Int)) = ((j + n : Nat) : Int) := by rw [wi (by omega) (by omega)]; omega
  have m4 : IntKind.i64.wrap (((j + n : Nat) : Int) - 1) = ((j + n - 1 : Nat) : Int) := by rw [wi (by omega) (by omega)]; omega
  have m1 : IntKind.i64.wrap ((n : Int) - 1) = ((n - 1 : Nat) : Int) := by rw [wi (by omega) (by omega)]; omega
  have m5 : IntKind.i64.wrap ((j : Int) - 1) = (j : Int) - 1 := wi (by omega) (by omega)
  have p0 : (j : Int) ≥ 0 := by omega
  have p1 : (0 : Int) ≤ ((n - 1 : Nat) : Int) := by omega
  have p2 : ((n - 1 : Nat) : Int) < (v.length : Int) := by omega
  have p3 : (0 : Int) ≤ ((j + n : Nat) : Int) := by omega
  have p4 : ((j + n : Nat) : Int) < (u.length : Int) := by omega
  have p5 : (0 : Int) ≤ ((j + n - 1 : Nat) : Int) := by omega
  have p6 : ((j + n - 1 : Nat) : Int) < (u.length : Int) := by omega
  have p7 : (j : Int) < (q.length : Int) := by omega
  have e1 : IntKind.u64.wrap (v.getD (n - 1) 0) = v.getD (n - 1) 0 := w64 (by omega) (by omega)
  have e2 : IntKind.u64.wrap (u.getD (j + n) 0) = u.getD (j + n) 0 := w64 (by omega) (by omega)
  have e3 : IntKind.u64.wrap (u.getD (j + n - 1) 0) = u.getD (j + n - 1) 0 := w64 (by omega) (by omega)
  have p8 : ¬ v.getD (n - 1) 0 = 0 := by omega
  have e4 := or_limbs x1.1 x1.2 x2.1 x2.2
  have t0 : 0 ≤ u.getD (j + n) 0 * 4294967296 + u.getD (j + n - 1) 0 := by omega
  have e5 : Int.tdiv (u.getD (j + n) 0 * 4294967296 + u.getD (j + n - 1) 0) (v.getD (n - 1) 0) = (u.getD (j + n) 0 * 4294967296 + u.getD (j + n - 1) 0) / v.getD (n - 1) 0 := Int.tdiv_eq_ediv_of_nonneg t0
  have e6 : Int.tmod (u.getD (j + n) 0 * 4294967296 + u.getD (j + n - 1) 0) (v.getD (n - 1) 0) = (u.getD (j + n) 0 * 4294967296 + u.getD (j + n - 1) 0) % v.getD (n - 1) 0 := Int.tmod_eq_emod_of_nonneg t0
  have e7 : IntKind.u64.wrap ((u.getD (j + n) 0 * 4294967296 + u.getD (j + n - 1) 0) / v.getD (n - 1) 0) = (u.getD (j + n) 0 * 4294967296 + u.getD (j + n - 1) 0) / v.getD (n - 1) 0 := by
    refine w64 (Int.ediv_nonneg t0 (by omega)) (Int.lt_of_le_of_lt (Int.ediv_le_self _ t0) (by omega))
  have e8 : IntKind.u32.wrap c = c := w32 hc hc1
  have p9 : ((j + n : Nat) : Int) < (r.length : Int) := by omega
  have H := S78_14_eq L106 Lg78_18 Lg78_24 Lg78_35 sh v (n : Int) (j : Int) u q
  simp only [decide_eq_true_eq, m1, m3, m4, p0, p1, p2, p3, p4, p5, p6, p8, if_true, if_false, Int.toNat_natCast, e1, e2, e3, e4, e5, e6, e7] at H
  rw [h18] at H
  simp only [Option.bind_some] at H
  rw [h24] at H
  simp only [Option.bind_some, m3, p3, p9, if_true, Int.toNat_natCast, e8, hrx] at H
  rw [h106] at H
  simp only [Option.bind_some] at H
  have hgw : IntKind.u32.wrap g = g := w32 hg.g0 hg.g1
  by_cases hneg : d < 0
  · have hb1' : bor d = 1 := by
      unfold bor
      rw [if_pos hneg]
    rw [if_pos hneg] at H
    have pne : (!(1 : Int) == 0) = true := by decide
    rw [if_pos pne] at H
    rw [hb1', Int.mul_one] at hE
    have hUg : val (u.drop j) < g * val v := by omega
    have hg1 : 1 ≤ g := by
      have := hg.g0
      rcases (show g = 0 ∨ 1 ≤ g by omega) with qq | qq
      · subst qq
        omega
      · exact qq
    have hlo := hg.lo
    have ew : IntKind.u64.wrap (g - 1) = g - 1 := w64 (by omega) (by have := hg.g1; omega)
    obtain ⟨c2, r2, h35, hk2, hc2, hc21, hv2⟩ := Lg78_35_spec (sh := sh) (g := g - 1) (q := q) (n := n) (j := j) wv hk1.wf hnv (by rw [hk1.len]; omega) (by rw [hk1.len]; exact hu)
    have hk2l := hk2.len
    have hk1l := hk1.len
    rw [ew, h35] at H
    have p10 : ((j + n : Nat) : Int) < (r2.length : Int) := by omega
    simp only [Option.bind_some, m3, m5, p3, p0, p7, p10, if_true, Int.toNat_natCast] at H
    have hr2 : r2.getD (j + n) 0 = d % 4294967296 := by
      rw [hk2.hi _ (Nat.le_refl _), getD_set, if_pos ⟨rfl, by omega⟩]
    have ew2 : IntKind.u32.wrap (g - 1) = g - 1 := w32 (by omega) (by have := hg.g1; omega)
    rw [hr2, w32m, ew2] at H
    have hy := Int.emod_nonneg (d % 4294967296 + c2) (show (4294967296 : Int) ≠ 0 by decide)
    have hy' := Int.emod_lt_of_pos (d % 4294967296 + c2) (show (0 : Int) < 4294967296 by decide)
    have hk3 := hk2.set hy hy'
    have hlo3 : (r2.set (j + n) ((d % 4294967296 + c2) % 4294967296)).take j = u.take j := by rw [hk3.lo, hk1.lo]
    have hlen3 : (r2.set (j + n) ((d % 4294967296 + c2) % 4294967296)).length = u.length := by rw [hk3.len, hk1.len]
    have hv3 : val (r2.set (j + n) ((d % 4294967296 + c2) % 4294967296)) = val u - 4294967296 ^ j * ((g - 1) * val v) + 4294967296 ^ j * 4294967296 ^ (n + 1) * (1 - (d % 4294967296 + c2) / 4294967296) := by
      rw [val_set (by omega), hv2, hv1, hr2, hb1', powB, powB_add]
      have hm : (d % 4294967296 + c2) % 4294967296 = d % 4294967296 + c2 - 4294967296 * ((d % 4294967296 + c2) / 4294967296) := by omega
      rw [hm]
      exact back_ring
    have hd3 := drop_val hlo3 (by rw [hlen3]; omega) (by omega)
    have hab3 : val ((r2.set (j + n) ((d % 4294967296 + c2) % 4294967296)).drop (j + n + 1)) = 0 := by
      rw [drop_ext hk3.len (fun k hk' => hk3.hi k (by omega))]
      exact hab
    have hF1 := window_lt hk3.wf (by rw [hlen3]; omega) hab3
    have hF : val ((r2.set (j + n) ((d % 4294967296 + c2) % 4294967296)).drop j) = val (u.drop j) - (g - 1) * val v + 4294967296 ^ (n + 1) * (1 - (d % 4294967296 + c2) / 4294967296) := by
      refine Int.eq_of_mul_eq_mul_left (show (4294967296 : Int) ^ j ≠ 0 by have := powB_pos j; omega) ?_
      rw [hd3, hv3]
      generalize (4294967296 : Int) ^ j = A at *
      generalize (d % 4294967296 + c2) / 4294967296 = k at *
      grind
    have hk01 : (d % 4294967296 + c2) / 4294967296 = 0 ∨ (d % 4294967296 + c2) / 4294967296 = 1 := by omega
    have hkk : (d % 4294967296 + c2) / 4294967296 = 1 := by
      rcases hk01 with qq | qq
      · exfalso
        rw [qq] at hF
        omega
      · exact qq
    rw [hkk] at hF hv3
    refine ⟨g - 1, _, H, by omega, by have := hg.g1; omega, hk3.wf, hlen3, ?_, ?_⟩
    · rw [hv3]
      omega
    · rw [hF]
      have : (g - 1) * val v = g * val v - val v := by grind
      omega
  · have hb1' : bor d = 0 := by
      unfold bor
      rw [if_neg hneg]
    rw [if_neg hneg] at H
    have pne : (!(0 : Int) == 0) = false := by decide
    rw [pne] at H
    simp only [Bool.false_eq_true, if_false, p0, p7, if_true, m5] at H
    rw [hb1', Int.mul_zero, Int.add_zero] at hE hv1
    rw [hgw] at H
    refine ⟨g, _, H, hg.g0, hg.g1, hk1.wf, hk1.len, hv1, ?_⟩
    rw [hE]
    have := hg.hi
    have : (g + 1) * val v = g * val v + val v := by grind
    omega
end Go.Proofs.Rf
/- A long division, whole. -/
namespace Go.Proofs.Rf
open Go Go.RowKit

/-- The rounds of a long division. -/
theorem Lg78_14_spec {sh : Int} {u v : List Int} {n m : Nat} (wu : Wf u) (wv : Wf v) (hn : 2 ≤ n) (hnv : v.length = n) (hm : m + n = u.length) (hu : u.length < 1000000000) (htop : 2147483648 ≤ v.getD (n - 1) 0) (hlt : val (u.drop m) < val v) :
    ∃ (r q : List Int), Lg78_14 ((sh, v, (), (n : Int), (), (m : Int) - 1, ()), (u, List.replicate m 0, ())) = some ((sh, (), (), ()), (r, q, ())) ∧ Wf r ∧ Wf q ∧ r.length = u.length ∧ q.length = m ∧ val r < val v ∧ val r + val v * val q = val u := by
  obtain ⟨z, h1, r, q, rfl, h2⟩ := limL_ind (f := S78_14 L106 Lg78_18 Lg78_24 Lg78_35) (fun x => (x.1.2.2.2.2.2.1 + 1).toNat)
    (fun x => ∃ (k : Nat) (r q : List Int), x = ((sh, v, (), (n : Int), (), (k : Int) - 1, ()), (r, q, ())) ∧ k ≤ m ∧ Wf r ∧ Wf q ∧ r.length = u.length ∧ q.length = m ∧ val (r.drop k) < val v ∧ val r + val v * val q = val u ∧ ∀ i, i < k → q.getD i 0 = 0)
    (fun z => ∃ (r q : List Int), z = ((sh, (), (), ()), (r, q, ())) ∧ Wf r ∧ Wf q ∧ r.length = u.length ∧ q.length = m ∧ val r < val v ∧ val r + val v * val q = val u) (by
    rintro x ⟨k, r, q, rfl, hk, wr, wq, hr, hq, hl, hv, hz⟩
    rcases Nat.eq_zero_or_pos k with rfl | hp
    · right
      refine ⟨_, ?_, r, q, rfl, wr, wq, hr, hq, by rw [List.drop_zero] at hl; exact hl, hv⟩
      rw [S78_14_eq]
      rfl
    · left
      obtain ⟨k, rfl⟩ : ∃ k', k = k' + 1 := ⟨k - 1, by omega⟩
      obtain ⟨g, r', h3, hg, hg1, wr', hr', hv', hl'⟩ := S78_14_step (sh := sh) (q := q) (j := k) wr wv hn hnv (by omega) (by omega) (by omega) htop hl
      rw [show (k : Int) = ((k + 1 : Nat) : Int) - 1 by omega] at h3
      refine ⟨_, h3, ⟨k, r', q.set k g, by rw [show ((k + 1 : Nat) : Int) - 1 - 1 = (k : Int) - 1 by omega], by omega, wr', wq.set k hg hg1, by omega, by rw [List.length_set]; exact hq, hl', ?_, fun i hi => ?_⟩, by simp only; omega⟩
      · rw [val_set (by omega), hz k (by omega), hv']
        generalize (4294967296 : Int) ^ k = A at *
        grind
      · rw [getD_set, if_neg (by omega)]
        exact hz i (by omega)) ((sh, v, (), (n : Int), (), (m : Int) - 1, ()), (u, List.replicate m 0, ())) ⟨m, u, _, rfl, Nat.le_refl _, wu, Wf.replicate m, rfl, by simp, hlt, by rw [val_replicate]; simp, fun i _ => by rw [List.getD_eq_getElem?_getD, List.getElem?_replicate]; split <;> rfl⟩
  exact ⟨r, q, h1, h2⟩

theorem L105_spec {l : List Int} (hl : l.length ≤ 4294967296) : L105 (l, ()) = some (((), ()), (l, ())) := by
  show C105 (l, ()) = _
  unfold C105
  rw [if_pos (by simpa using hl)]

theorem Lg78_9_spec {a u v : List Int} {sh : Int} (h : a.length < u.length) : Lg78_9 ((a, sh, v, (), ()), (u, ())) = some ((sh, v, (), ()), (u, ())) := by
  obtain ⟨z, h1, rfl⟩ := limL_ind (f := S78_9) (fun _ => 0) (fun x => x = ((a, sh, v, (), ()), (u, ()))) (fun z => z = ((sh, v, (), ()), (u, ()))) (by
    rintro x rfl
    right
    refine ⟨_, ?_, rfl⟩
    rw [S78_9_eq, if_neg (by rw [decide_eq_true_eq]; omega)]) _ rfl
  exact h1

/-- Shifted so far that the highest bit is one. -/
theorem norm_top {b : Nat} (hb : b ≠ 0) : ∃ k s, (lim b).length = k + 1 ∧ (lim b).getD k 0 = ((b / 4294967296 ^ k : Nat) : Int) ∧ b / 4294967296 ^ k < 4294967296 ∧ 32 - (bl (b / 4294967296 ^ k) : Int) = (s : Nat) ∧ s < 32 ∧ (lim (b * 2 ^ s)).length = k + 1 ∧ 2147483648 ≤ (lim (b * 2 ^ s)).getD k 0 := by
  obtain ⟨k, h1, h2, h3, h4⟩ := lim_top hb
  have h5 := bl_le_of (k := 32) (x := b / 4294967296 ^ k) (by simpa using h4)
  have h6 := bl_pos h3
  obtain ⟨s, hs⟩ : ∃ s, s = 32 - bl (b / 4294967296 ^ k) := ⟨_, rfl⟩
  have h7 : bl b = bl (b / 4294967296 ^ k) + 32 * k := by
    have := bl_shift (x := b) (k := 32 * k) (by rw [← B_pow]; exact h3)
    rw [← B_pow] at this
    exact this
  have h8 := bl_lt b
  have h9 := bl_le hb
  have h10 : b * 2 ^ s < 2 ^ (32 * (k + 1)) := by
    rw [show 32 * (k + 1) = bl b + s by omega, Nat.pow_add]
    exact (Nat.mul_lt_mul_right (Nat.two_pow_pos s)).2 h8
  have h11 : 2 ^ (32 * k) * 2147483648 ≤ b * 2 ^ s := by
    have : 2 ^ (32 * k) * 2147483648 = 2 ^ (bl b - 1) * 2 ^ s := by
      rw [← Nat.pow_add, show bl b - 1 + s = 32 * k + 31 by omega, Nat.pow_add]
    rw [this]
    exact Nat.mul_le_mul_right _ h9
  have h12 : (lim (b * 2 ^ s)).length = k + 1 := by
    have q1 : (lim (b * 2 ^ s)).length ≤ k + 1 := lim_length_of (by rw [B_pow]; exact h10)
    have q2 : ¬ (lim (b * 2 ^ s)).length ≤ k := by
      rw [lim_length_iff, B_pow]
      have := Nat.two_pow_pos (32 * k)
      omega
    omega
  refine ⟨k, s, h1, h2, h4, by omega, by omega, h12, ?_⟩
  rw [limB]
  unfold lb
  have h13 : b * 2 ^ s / 2 ^ (32 * k) < 2 ^ 32 := by
    refine (Nat.div_lt_iff_lt_mul (Nat.two_pow_pos _)).2 ?_
    rw [← Nat.pow_add, show 32 + 32 * k = 32 * (k + 1) by omega]
    exact h10
  have h14 : 2147483648 ≤ b * 2 ^ s / 2 ^ (32 * k) := by
    refine (Nat.le_div_iff_mul_le (Nat.two_pow_pos _)).2 ?_
    rw [Nat.mul_comm]
    exact h11
  rw [Nat.mod_eq_of_lt h13]
  omega

/-- over. -/
theorem L78_spec {a b : Nat} (hb : b ≠ 0) (ha : (lim a).length < 100000) (hbl : (lim b).length < 100000) : L78 (lim a, lim b, ()) = some ((lim (a / b), lim (a % b), ()), ()) := by
  show F78 L58 L76 L77 L79 L96 L99 L100 L105 Lg78_9 Lg78_14 (lim a, lim b, ()) = _
  rw [F78_eq]
  obtain ⟨c, h79, hc, _⟩ := L79_spec (a := a) (b := b) (by omega) (by omega)
  rw [h79]
  simp only [Option.bind_some]
  by_cases hlt : a < b
  · have p : c < 0 := hc.2 hlt
    rw [if_pos (by rw [decide_eq_true_eq]; exact p), L105_spec (by omega), Nat.div_eq_of_lt hlt, Nat.mod_eq_of_lt hlt, lim_zero]
    rfl
  · have p : ¬ c < 0 := fun q => hlt (hc.1 q)
    rw [if_neg (by rw [decide_eq_true_eq]; exact p)]
    obtain ⟨k, s, h1, h2, h3, h4, h5, h6, h7⟩ := norm_top hb
    by_cases hk : k = 0
    · subst hk
      have q1 : (((lim b).length : Int) == 1) = true := by rw [h1]; rfl
      have q2 : (0 : Int) < ((lim b).length : Int) := by rw [h1]; decide
      have q3 : (lim b).getD 0 0 = (b : Int) := by
        rw [h2, Nat.pow_zero, Nat.div_one]
      have q4 : b < 4294967296 := by
        rw [Nat.pow_zero, Nat.div_one] at h3
        exact h3
      rw [if_pos q1, if_pos q2, q3, L99_spec (Wf_lim a) (by omega) (by omega) (by omega), val_lim]
      simp only [Option.bind_some]
      rw [← Int.natCast_emod, L58_spec (Int.natCast_nonneg _) (by have := Nat.mod_lt a (Nat.pos_of_ne_zero hb); omega), ← Int.natCast_ediv]
      rfl
    · have q1 : ¬ (((lim b).length : Int) == 1) = true := by
        rw [beq_iff_eq, h1]
        omega
      have e1 : IntKind.i64.wrap (((lim b).length : Int) - 1) = (k : Int) := by rw [wi (by omega) (by omega)]; omega
      have q2 : (0 : Int) ≤ (k : Int) := by omega
      have q3 : (k : Int) < ((lim b).length : Int) := by omega
      rw [if_neg q1, e1, if_pos q2, if_pos q3, Int.toNat_natCast, h2, L100_spec h3, h4]
      simp only [Option.bind_some]
      rw [L76_spec (a := b) (n := s) (by omega) (by omega)]
      simp only [Option.bind_some]
      rw [L76_spec (a := a) (n := s) (by omega) (by omega)]
      simp only [Option.bind_some]
      have hap : a ≤ a * 2 ^ s := Nat.le_mul_of_pos_right _ (Nat.two_pow_pos s)
      have hal := lim_length_mono hap
      have hau : (lim (a * 2 ^ s)).length ≤ (lim a).length + 1 := by
        refine lim_length_of ?_
        rw [B_pow]
        have h8 := lim_lt a
        rw [B_pow] at h8
        rw [show 32 * ((lim a).length + 1) = 32 * (lim a).length + 32 by omega, Nat.pow_add]
        exact Nat.mul_lt_mul_of_lt_of_le h8 (Nat.pow_le_pow_right (by decide) (by omega)) (Nat.two_pow_pos _)
      rw [L105_spec (by omega)]
      simp only [Option.bind_some]
      rw [if_pos (by omega), Lg78_9_spec (by simp; omega)]
      simp only [Option.bind_some, h6]
      have hbl2 : (lim b).length ≤ (lim a).length := lim_length_mono (by omega)
      obtain ⟨m, hm⟩ : ∃ m, m = (lim (a * 2 ^ s)).length - k := ⟨_, rfl⟩
      have e2 : IntKind.i64.wrap (((lim (a * 2 ^ s) ++ [0]).length : Int) - ((k + 1 : Nat) : Int)) = (m : Int) := by
        rw [List.length_append, List.length_cons, List.length_nil, wi (by omega) (by omega)]
        omega
      have e3 : IntKind.i64.wrap ((m : Int) - 1) = (m : Int) - 1 := wi (by omega) (by omega)
      have q4 : (0 : Int) ≤ (m : Int) := by omega
      have q5 : (m : Int) ≤ ((4294967296 : Nat) : Int) := by omega
      simp only [e2, e3, q4, q5, Int.le_refl, if_true, Int.toNat_natCast]
      have wu : Wf (lim (a * 2 ^ s) ++ [0]) := (Wf_lim _).append (Wf.cons (by decide) (by decide) Wf.nil)
      have hvu : val (lim (a * 2 ^ s) ++ [0]) = ((a * 2 ^ s : Nat) : Int) := by
        rw [val_append, val_lim]
        simp [val]
      have hvv : val (lim (b * 2 ^ s)) = ((b * 2 ^ s : Nat) : Int) := val_lim _
      have hlen : (lim (a * 2 ^ s) ++ [0]).length = (lim (a * 2 ^ s)).length + 1 := by simp
      have hdrop : val ((lim (a * 2 ^ s) ++ [0]).drop m) < val (lim (b * 2 ^ s)) := by
        have hml : m ≤ (lim (a * 2 ^ s)).length := by omega
        rw [List.drop_append_of_le_length hml, val_append]
        have h9 : val ((lim (a * 2 ^ s)).drop m) < 4294967296 ^ ((lim (a * 2 ^ s)).drop m).length := val_lt ((Wf_lim _).drop m)
        rw [List.length_drop, show (lim (a * 2 ^ s)).length - m = k by omega] at h9
        simp only [val, Int.mul_zero, Int.add_zero]
        have h10 := val_split (lim (b * 2 ^ s)) k (by omega)
        rw [drop_at (show k < (lim (b * 2 ^ s)).length by omega)] at h10
        simp only [val] at h10
        have h11 := val_nonneg ((Wf_lim (b * 2 ^ s)).take k)
        have h12 := val_nonneg ((Wf_lim (b * 2 ^ s)).drop (k + 1))
        have h13 : (4294967296 : Int) ^ k * 1 ≤ 4294967296 ^ k * ((lim (b * 2 ^ s)).getD k 0 + 4294967296 * val ((lim (b * 2 ^ s)).drop (k + 1))) := Int.mul_le_mul_of_nonneg_left (by omega) (Int.le_of_lt (powB_pos k))
        omega
      obtain ⟨r, q, h14, wr, wq, hr, hq, hv1, hv2⟩ := Lg78_14_spec (sh := (s : Int)) (n := k + 1) (m := m) wu (Wf_lim (b * 2 ^ s)) (by omega) h6 (by omega) (by omega) (by rw [show k + 1 - 1 = k by omega]; exact h7) hdrop
      rw [h14]
      simp only [Option.bind_some]
      rw [L96_spec wr (by omega)]
      simp only [Option.bind_some]
      rw [hvu, hvv] at hv2
      rw [hvv] at hv1
      have hr0 := val_nonneg wr
      have hps := Nat.two_pow_pos s
      have hdm := Int.ediv_emod_unique (a := ((a * 2 ^ s : Nat) : Int)) (q := val q) (r := val r) (b := ((b * 2 ^ s : Nat) : Int)) (by have := Nat.mul_pos (Nat.pos_of_ne_zero hb) hps; omega)
      obtain ⟨hq1, hr1⟩ := hdm.2 ⟨hv2, hr0, hv1⟩
      rw [← Int.natCast_ediv, Nat.mul_div_mul_right _ _ hps] at hq1
      rw [← Int.natCast_emod, Nat.mul_mod_mul_right] at hr1
      rw [← hr1, Int.toNat_natCast]
      have hrl : (lim (a % b * 2 ^ s)).length < 1000000 := by
        have h15 : a % b * 2 ^ s ≤ a * 2 ^ s := Nat.mul_le_mul_right _ (Nat.mod_le a b)
        have := lim_length_mono h15
        omega
      rw [L77_spec hrl (by omega), Nat.mul_div_cancel _ hps]
      simp only [Option.bind_some]
      rw [L96_spec wq (by omega), ← hq1, Int.toNat_natCast]
      rfl
end Go.Proofs.Rf
/- Signed numbers: sums, products, in both texts. -/
namespace Go.Proofs.Rf
open Go Go.RowKit

def sgn (neg : Bool) (n : Nat) : Int := if neg = true then -(n : Int) else (n : Int)

theorem sgn_natAbs (neg : Bool) (n : Nat) : (sgn neg n).natAbs = n := by
  unfold sgn
  cases neg <;> simp

theorem zl_sgn (neg : Bool) (n : Nat) : zl (sgn neg n) = (neg && decide (0 < (lim n).length), lim n) := by
  unfold zl
  rw [sgn_natAbs]
  congr 1
  unfold sgn
  cases neg
  · simp
  · simp only [if_true, Bool.true_and]
    rw [decide_eq_decide]
    constructor
    · intro h
      rcases Nat.eq_zero_or_pos (lim n).length with q | q
      · have := lim_eq_nil.1 (List.eq_nil_of_length_eq_zero q)
        omega
      · exact q
    · intro h
      have : n ≠ 0 := by
        rintro rfl
        rw [lim_zero] at h
        simp at h
      omega

theorem zl_1 (z : Int) : (zl z).1 = decide (z < 0) := rfl
theorem zl_2 (z : Int) : (zl z).2 = lim z.natAbs := rfl
/-- A number, if it is not too large. -/
def res (z : Int) : (Bool × List Int) × Int := if 200 < (lim z.natAbs).length then ((false, []), 4) else (zl z, 0)

theorem len_pos_int {l : List Int} : decide ((l.length : Int) > 0) = decide (0 < l.length) := by
  rw [decide_eq_decide]
  omega

theorem L97_spec {l : List Int} (hl : l.length ≤ 4294967296) : L97 (l, ()) = some ((l, ()), ()) := by
  show C97 (l, ()) = _
  unfold C97
  rw [if_pos (by simpa using hl)]

theorem L61_gen {neg : Bool} {n : Nat} (hl : (lim n).length ≤ 4294967296) : L61 (neg, lim n, ()) = some ((zl (sgn neg n), ()), ()) := by
  show F61 L97 (neg, lim n, ()) = _
  rw [F61_eq, L97_spec hl, zl_sgn, len_pos_int]
  cases neg <;> rfl

theorem L75_spec (z : Int) : L75 (zl z, ()) = some (((res z).1, (res z).2, ()), ()) := by
  show F75 ((decide (z < 0), lim z.natAbs), ()) = _
  rw [F75_eq]
  unfold res
  by_cases h : 200 < (lim z.natAbs).length
  · have p : ((lim z.natAbs).length : Int) > 200 := by omega
    rw [if_pos (by rw [decide_eq_true_eq]; exact p), if_pos h]
  · have p : ¬ ((lim z.natAbs).length : Int) > 200 := by omega
    rw [if_neg (by rw [decide_eq_true_eq]; exact p), if_neg h]
    rfl

theorem L63_spec (z : Int) : L63 (zl z, ()) = some ((lim z.natAbs, ()), ()) := F63_eq _ _
theorem L63_at (neg : Bool) (l : List Int) : L63 ((neg, l), ()) = some ((l, ()), ()) := F63_eq neg l
theorem pe {α β : Type} (p : α × β) : (p.1, p.2) = p := rfl

/-! ### Sums -/
/-- So long at most. -/
def Sz (k : Nat) (z : Int) : Prop := (lim z.natAbs).length ≤ k

theorem lim_add_length (a b : Nat) : (lim (a + b)).length ≤ max (lim a).length (lim b).length + 1 := by
  refine lim_length_of ?_
  have h1 := lim_lt a
  have h2 := lim_lt b
  have h3 : 4294967296 ^ (lim a).length ≤ 4294967296 ^ max (lim a).length (lim b).length := Nat.pow_le_pow_right (by decide) (Nat.le_max_left ..)
  have h4 : 4294967296 ^ (lim b).length ≤ 4294967296 ^ max (lim a).length (lim b).length := Nat.pow_le_pow_right (by decide) (Nat.le_max_right ..)
  rw [Nat.pow_succ]
  omega

theorem Sz.add {j k : Nat} {x y : Int} (hx : Sz j x) (hy : Sz k y) : Sz (max j k + 1) (x + y) := by
  have h1 := lim_add_length x.natAbs y.natAbs
  have h2 := lim_length_mono (Int.natAbs_add_le x y)
  unfold Sz at *
  omega

theorem lim_mul_length (a b : Nat) : (lim (a * b)).length ≤ (lim a).length + (lim b).length := by
  refine lim_length_of ?_
  rw [Nat.pow_add]
  have h1 := lim_lt a
  have h2 := lim_lt b
  by_cases hb : b = 0
  · subst hb
    rw [Nat.mul_zero]
    exact Nat.mul_pos (Nat.pow_pos (by decide)) (Nat.pow_pos (by decide))
  · exact Nat.mul_lt_mul_of_lt_of_le h1 (Nat.le_of_lt h2) (Nat.lt_of_le_of_lt (Nat.zero_le _) h2)

theorem Sz.mul {j k : Nat} {x y : Int} (hx : Sz j x) (hy : Sz k y) : Sz (j + k) (x * y) := by
  unfold Sz at *
  rw [Int.natAbs_mul]
  have := lim_mul_length x.natAbs y.natAbs
  omega

theorem Sz.neg {k : Nat} {x : Int} (hx : Sz k x) : Sz k (-x) := by
  unfold Sz at *
  rw [Int.natAbs_neg]
  exact hx

theorem Sz.mono {j k : Nat} {x : Int} (h : Sz j x) (hk : j ≤ k) : Sz k x := Nat.le_trans h hk

theorem Sz.le {k : Nat} {x y : Int} (h : Sz k y) (hx : x.natAbs ≤ y.natAbs) : Sz k x := Nat.le_trans (lim_length_mono hx) h

theorem L59_spec' {a b : Nat} (ha : (lim a).length < 1000000000) (hb : (lim b).length < 1000000000) : L59 (lim a, lim b, ()) = some ((lim (a + b), ()), ()) := by
  have := L59_spec (Wf_lim a) (Wf_lim b) ha hb
  rw [val_lim, val_lim, ← Int.natCast_add, Int.toNat_natCast] at this
  exact this

theorem L57_spec' {a b : Nat} (ha : (lim a).length < 1000000000) (hb : (lim b).length < 1000000000) : L57 (lim a, lim b, ()) = some ((lim (a * b), ()), ()) := by
  have := L57_spec (Wf_lim a) (Wf_lim b) ha hb
  rw [val_lim, val_lim, ← Int.natCast_mul, Int.toNat_natCast] at this
  exact this

/-- The program's sum. -/
theorem L87_spec {x y : Int} (hx : Sz 1000000 x) (hy : Sz 1000000 y) : L87 (zl x, zl y, ()) = some ((zl (x + y), ()), ()) := by
  have hxy := hx.add hy
  unfold Sz at hx hy hxy
  show F87 L59 L61 L63 L79 L110 ((decide (x < 0), lim x.natAbs), (decide (y < 0), lim y.natAbs), ()) = _
  rw [F87_eq, L63_at, L63_at]
  simp only [Option.bind_some]
  by_cases hs : decide (x < 0) = decide (y < 0)
  · have p : (decide (x < 0) == decide (y < 0)) = true := by rw [hs]; simp
    have hs' := decide_eq_decide.1 hs
    have e : x.natAbs + y.natAbs = (x + y).natAbs := by omega
    rw [if_pos p, L59_spec' (by omega) (by omega), e]
    simp only [Option.bind_some]
    rw [L61_gen (by omega)]
    simp only [Option.bind_some, pe]
    have e2 : sgn (decide (x < 0)) (x + y).natAbs = x + y := by
      unfold sgn
      by_cases h : x < 0
      · rw [decide_eq_true h, if_pos rfl]; omega
      · rw [decide_eq_false h, if_neg (by decide)]; omega
    rw [e2]
  · have p : (decide (x < 0) == decide (y < 0)) = false := by rw [beq_eq_false_iff_ne]; exact hs
    have hs' : ¬ (x < 0 ↔ y < 0) := fun q => hs (decide_eq_decide.2 q)
    rw [p]
    obtain ⟨c, h79, hc, _⟩ := L79_spec (a := x.natAbs) (b := y.natAbs) (by omega) (by omega)
    simp only [Bool.false_eq_true, if_false]
    rw [h79]
    simp only [Option.bind_some]
    by_cases hlt : x.natAbs < y.natAbs
    · have p2 : ¬ c ≥ 0 := by have := hc.2 hlt; omega
      rw [if_neg (by rw [decide_eq_true_eq]; exact p2), L110_spec (by omega) (by omega)]
      simp only [Option.bind_some]
      have e : y.natAbs - x.natAbs = (x + y).natAbs := by omega
      rw [e, L61_gen (by omega)]
      simp only [Option.bind_some, pe]
      have e2 : sgn (decide (y < 0)) (x + y).natAbs = x + y := by
        unfold sgn
        by_cases h : y < 0
        · rw [decide_eq_true h, if_pos rfl]; omega
        · rw [decide_eq_false h, if_neg (by decide)]; omega
      rw [e2]
    · have p2 : c ≥ 0 := by
        rcases Int.lt_or_le c 0 with q | q
        · exact (hlt (hc.1 q)).elim
        · exact q
      rw [if_pos (by rw [decide_eq_true_eq]; exact p2), L110_spec (by omega) (by omega)]
      simp only [Option.bind_some]
      have e : x.natAbs - y.natAbs = (x + y).natAbs := by omega
      rw [e, L61_gen (by omega)]
      simp only [Option.bind_some, pe]
      have e2 : sgn (decide (x < 0)) (x + y).natAbs = x + y := by
        unfold sgn
        by_cases h : x < 0
        · rw [decide_eq_true h, if_pos rfl]; omega
        · rw [decide_eq_false h, if_neg (by decide)]; omega
      rw [e2]

theorem sgn_not (z : Int) : sgn (!decide (z < 0)) z.natAbs = -z := by
  unfold sgn
  by_cases h : z < 0
  · rw [decide_eq_true h]; simp only [Bool.not_true, Bool.false_eq_true, if_false]; omega
  · rw [decide_eq_false h]; simp only [Bool.not_false, if_true]; omega

/-- The negative, in both texts. -/
theorem L88_spec {z : Int} (hz : Sz 1000000 z) : L88 (zl z, ()) = some ((zl (-z), ()), ()) := by
  unfold Sz at hz
  show F88 L61 L63 ((decide (z < 0), lim z.natAbs), ()) = _
  rw [F88_eq, L63_at]
  simp only [Option.bind_some]
  rw [L61_gen (by omega), sgn_not]
  rfl

theorem sgn_mul (x y : Int) : sgn (!(decide (x < 0) == decide (y < 0))) (x.natAbs * y.natAbs) = x * y := by
  unfold sgn
  by_cases hx : x < 0
  · rw [decide_eq_true hx]
    obtain ⟨a, rfl⟩ : ∃ a : Nat, x = -(a : Int) := ⟨x.natAbs, by omega⟩
    by_cases hy : y < 0
    · rw [decide_eq_true hy]
      obtain ⟨b, rfl⟩ : ∃ b : Nat, y = -(b : Int) := ⟨y.natAbs, by omega⟩
      simp [Int.natAbs_neg] <;> grind
    · rw [decide_eq_false hy]
      obtain ⟨b, rfl⟩ : ∃ b : Nat, y = (b : Int) := ⟨y.natAbs, by omega⟩
      simp [Int.natAbs_neg] <;> grind
  · rw [decide_eq_false hx]
    obtain ⟨a, rfl⟩ : ∃ a : Nat, x = (a : Int) := ⟨x.natAbs, by omega⟩
    by_cases hy : y < 0
    · rw [decide_eq_true hy]
      obtain ⟨b, rfl⟩ : ∃ b : Nat, y = -(b : Int) := ⟨y.natAbs, by omega⟩
      simp [Int.natAbs_neg] <;> grind
    · rw [decide_eq_false hy]
      obtain ⟨b, rfl⟩ : ∃ b : Nat, y = (b : Int) := ⟨y.natAbs, by omega⟩
      simp

/-- The program's product. -/
theorem L89_spec {x y : Int} (hx : Sz 1000000 x) (hy : Sz 1000000 y) : L89 (zl x, zl y, ()) = some ((zl (x * y), ()), ()) := by
  have hl := lim_mul_length x.natAbs y.natAbs
  unfold Sz at hx hy
  show F89 L57 L61 L63 ((decide (x < 0), lim x.natAbs), (decide (y < 0), lim y.natAbs), ()) = _
  rw [F89_eq, L63_at, L63_at]
  simp only [Option.bind_some]
  rw [L57_spec' (by omega) (by omega)]
  simp only [Option.bind_some]
  rw [L61_gen (by omega), sgn_mul]
  rfl

/-! ### Errors of lists -/
def ers : List (Bool × List Int) → Int
  | [] => 0
  | a :: r => if err a.1 a.2 = 0 then ers r else err a.1 a.2

theorem ers_two (a b : Bool × List Int) : ers [a, b] = fst2 (err a.1 a.2) (err b.1 b.2) := by
  unfold fst2
  simp only [ers]
  split
  · split
    · rename_i h; exact h.symm
    · rfl
  · rfl

theorem L109_spec {ls : List (Bool × List Int)} (hl : ls.length < 1000000) (hs : ∀ a ∈ ls, a.2.length < 1000000000) : L109 (ls, (), ()) = some ((ls.map fun a => err a.1 a.2, ()), ()) := by
  obtain ⟨z, h1, rfl⟩ := limL_ind (f := S109_3 L22) (fun x => ls.length - x.1.2.2.2.2.1.toNat)
    (fun x => ∃ i : Nat, x = (((), (), ls, (ls.length : Int), (i : Int), ()), ((ls.take i).map fun a => err a.1 a.2, ())) ∧ i ≤ ls.length)
    (fun z => z = (((), ()), (ls.map fun a => err a.1 a.2, ()))) (by
    rintro x ⟨i, rfl, hi⟩
    have e := S109_3_eq L22 ls (ls.length : Int) (i : Int) ((ls.take i).map fun a => err a.1 a.2)
    by_cases h0 : i < ls.length
    · have p0 : (0 : Int) ≤ (i : Int) := by omega
      have p1 : (i : Int) < (ls.length : Int) := by omega
      have e6 : IntKind.i64.wrap ((i : Int) + 1) = ((i + 1 : Nat) : Int) := by rw [wi (by omega) (by omega)]; omega
      have hmem : ls.getD i (false, []) ∈ ls := by
        rw [List.getD_eq_getElem?_getD, List.getElem?_eq_getElem h0]
        exact List.getElem_mem h0
      simp only [decide_eq_true_eq, p0, p1, if_true, Int.toNat_natCast, e6] at e
      rw [L22_spec (by have := hs _ hmem; omega)] at e
      simp only [Option.bind_some] at e
      rw [if_pos (by simp; omega)] at e
      refine .inl ⟨_, e, ⟨i + 1, ?_, by omega⟩, by simp only [Int.toNat_natCast]; omega⟩
      have h5 : ls.take (i + 1) = ls.take i ++ [ls.getD i (false, [])] := by
        rw [List.take_succ_eq_append_getElem h0, List.getD_eq_getElem?_getD, List.getElem?_eq_getElem h0]
        rfl
      rw [h5, List.map_append]
      rfl
    · right
      have p1 : ¬ (i : Int) < (ls.length : Int) := by omega
      simp only [decide_eq_true_eq, p1, if_false] at e
      rw [List.take_of_length_le (by omega)] at e
      exact ⟨_, by rw [List.take_of_length_le (by omega)]; exact e, rfl⟩) (((), (), ls, (ls.length : Int), 0, ()), ([], ())) ⟨0, rfl, by omega⟩
  have h1 : Lg109_3 (((), (), ls, (ls.length : Int), 0, ()), ([], ())) = _ := h1
  have hF : L109 (ls, (), ()) = _ := F109_eq Lg109_3 ls
  rw [h1] at hF
  exact hF

theorem find_ers : ∀ (ls : List (Bool × List Int)), (match (ls.map fun a => err a.1 a.2).find? (fun e => !(e == 0)) with | some e => e | none => 0) = ers ls
  | [] => rfl
  | a :: r => by
    rw [List.map_cons]
    simp only [ers]
    by_cases h : err a.1 a.2 = 0
    · rw [if_pos h, ← find_ers r, List.find?_cons_of_neg (by rw [h]; decide)]
    · rw [if_neg h, List.find?_cons_of_pos (by simpa using h)]

theorem L85_spec {ls : List (Bool × List Int)} (hl : ls.length < 1000000) (hs : ∀ a ∈ ls, a.2.length < 1000000000) : L85 (ls, ()) = some ((ers ls, ()), ()) := by
  show F85 L52 L109 (ls, ()) = _
  rw [F85_eq, L109_spec hl hs]
  simp only [Option.bind_some]
  rw [L52_spec (by simp; omega), ← find_ers]
  rfl
end Go.Proofs.Rf
/- The reference's division, bit by bit. -/
namespace Go.Proofs.Rf
open Go Go.RowKit
end Go.Proofs.Rf
/- Quotients rounded down, in both texts. -/
namespace Go.Proofs.Rf
open Go Go.RowKit

theorem fl_unique {a b q r : Int} (h : r + b * q = a) (h1 : (0 ≤ r ∧ r < b) ∨ (b < r ∧ r ≤ 0)) : a.fdiv b = q ∧ a.fmod b = r := by
  rcases h1 with h1 | h1
  · exact (Int.fdiv_fmod_unique (by omega)).2 ⟨h, h1.1, h1.2⟩
  · exact (Int.fdiv_fmod_unique' (by omega)).2 ⟨h, h1.1, h1.2⟩

theorem floor_up {a b : Int} (hb : b ≠ 0) (hs : decide (a < 0) ≠ decide (b < 0)) (hr : a.natAbs % b.natAbs ≠ 0) :
    a.fdiv b = -((a.natAbs / b.natAbs + 1 : Nat) : Int) ∧ a.fmod b = sgn (decide (b < 0)) (b.natAbs - a.natAbs % b.natAbs) := by
  have h1 := Nat.div_add_mod a.natAbs b.natAbs
  have h2 := Nat.mod_lt a.natAbs (show b.natAbs > 0 by omega)
  have hs' : ¬ (a < 0 ↔ b < 0) := fun q => hs (decide_eq_decide.2 q)
  generalize a.natAbs / b.natAbs = Q at *
  generalize a.natAbs % b.natAbs = R at *
  have h3 : ((b.natAbs : Int)) * (Q : Int) + (R : Int) = (a.natAbs : Int) := by
    rw [← h1]
    simp only [Int.natCast_add, Int.natCast_mul]
  apply fl_unique
  · unfold sgn
    by_cases h : b < 0
    · rw [decide_eq_true h, if_pos rfl]
      have e1 : (b.natAbs : Int) = -b := by omega
      have e2 : (a.natAbs : Int) = a := by omega
      rw [e1, e2] at h3
      have e3 : ((b.natAbs - R : Nat) : Int) = -b - R := by omega
      rw [e3, Int.natCast_add]
      grind
    · rw [decide_eq_false h, if_neg (by decide)]
      have e1 : (b.natAbs : Int) = b := by omega
      have e2 : (a.natAbs : Int) = -a := by omega
      rw [e1, e2] at h3
      have e3 : ((b.natAbs - R : Nat) : Int) = b - R := by omega
      rw [e3, Int.natCast_add]
      grind
  · unfold sgn
    by_cases h : b < 0
    · rw [decide_eq_true h, if_pos rfl]
      omega
    · rw [decide_eq_false h, if_neg (by decide)]
      omega

theorem floor_same {a b : Int} (hb : b ≠ 0) (hs : decide (a < 0) = decide (b < 0) ∨ a.natAbs % b.natAbs = 0) :
    a.fdiv b = sgn (!(decide (a < 0) == decide (b < 0))) (a.natAbs / b.natAbs) ∧ a.fmod b = sgn (decide (b < 0)) (a.natAbs % b.natAbs) := by
  have h1 := Nat.div_add_mod a.natAbs b.natAbs
  have h2 := Nat.mod_lt a.natAbs (show b.natAbs > 0 by omega)
  generalize a.natAbs / b.natAbs = Q at *
  generalize a.natAbs % b.natAbs = R at *
  have h3 : ((b.natAbs : Int)) * (Q : Int) + (R : Int) = (a.natAbs : Int) := by
    rw [← h1]
    simp only [Int.natCast_add, Int.natCast_mul]
  apply fl_unique
  · unfold sgn
    by_cases h : b < 0
    · by_cases g : a < 0
      · rw [decide_eq_true h, decide_eq_true g]
        have e1 : (b.natAbs : Int) = -b := by omega
        have e2 : (a.natAbs : Int) = -a := by omega
        rw [e1, e2] at h3
        simp only [beq_self_eq_true, Bool.not_true, Bool.false_eq_true, if_false, if_true]
        grind
      · rw [decide_eq_true h, decide_eq_false g] at hs ⊢
        have hR : R = 0 := by
          rcases hs with hs | hs
          · cases hs
          · exact hs
        subst hR
        have e1 : (b.natAbs : Int) = -b := by omega
        have e2 : (a.natAbs : Int) = a := by omega
        rw [e1, e2] at h3
        simp only [show (!(false == true)) = true from rfl, if_true]
        grind
    · by_cases g : a < 0
      · rw [decide_eq_false h, decide_eq_true g] at hs ⊢
        have hR : R = 0 := by
          rcases hs with hs | hs
          · cases hs
          · exact hs
        subst hR
        have e1 : (b.natAbs : Int) = b := by omega
        have e2 : (a.natAbs : Int) = -a := by omega
        rw [e1, e2] at h3
        simp only [show (!(true == false)) = true from rfl, if_true, Bool.false_eq_true, if_false]
        grind
      · rw [decide_eq_false h, decide_eq_false g]
        have e1 : (b.natAbs : Int) = b := by omega
        have e2 : (a.natAbs : Int) = a := by omega
        rw [e1, e2] at h3
        simp only [beq_self_eq_true, Bool.not_true, Bool.false_eq_true, if_false]
        grind
  · unfold sgn
    by_cases h : b < 0
    · rw [decide_eq_true h, if_pos rfl]
      omega
    · rw [decide_eq_false h, if_neg (by decide)]
      omega

theorem lim_1 : lim 1 = [1] := by
  rw [lim_pos (by decide)]
  have : (1 : Nat) / 4294967296 = 0 := by decide
  rw [this, lim_zero]
  rfl

/-- The program's divided. -/
theorem L90_spec {a b : Int} (hb : b ≠ 0) (ha : Sz 90000 a) (hbs : Sz 90000 b) : L90 (zl a, zl b, ()) = some ((zl (a.fdiv b), zl (a.fmod b), ()), ()) := by
  have ha0 := ha
  have hb0 := hbs
  unfold Sz at ha hbs
  have hq := lim_length_mono (Nat.div_le_self a.natAbs b.natAbs)
  have hr := lim_length_mono (Nat.mod_le a.natAbs b.natAbs)
  have hlt := Nat.mod_lt a.natAbs (show b.natAbs > 0 by omega)
  show F90 L61 L63 L78 L87 ((decide (a < 0), lim a.natAbs), (decide (b < 0), lim b.natAbs), ()) = _
  rw [F90_eq, L63_at, L63_at]
  simp only [Option.bind_some]
  rw [L78_spec (by omega) (by omega) (by omega)]
  simp only [Option.bind_some]
  rw [L61_gen (by omega)]
  simp only [Option.bind_some]
  rw [L61_gen (by omega)]
  simp only [Option.bind_some]
  by_cases hs : decide (a < 0) = decide (b < 0)
  · have p : (!(decide (a < 0) == decide (b < 0))) = false := by rw [hs]; simp
    obtain ⟨f1, f2⟩ := floor_same hb (.inl hs)
    rw [p] at f1
    rw [p, f1, f2, hs]
    simp only [Bool.false_eq_true, if_false]
    split <;> rfl
  · have p : (!(decide (a < 0) == decide (b < 0))) = true := by
      rw [Bool.not_eq_true', beq_eq_false_iff_ne]
      exact hs
    rw [p]
    simp only [if_true]
    by_cases hR : a.natAbs % b.natAbs = 0
    · have p2 : ¬ decide (((lim (a.natAbs % b.natAbs)).length : Int) > 0) = true := by
        rw [hR, lim_zero]
        decide
      rw [if_neg p2]
      obtain ⟨f1, f2⟩ := floor_same hb (.inr hR)
      rw [p] at f1
      rw [f1, f2, hR]
      have : ∀ s, sgn s 0 = 0 := fun s => by cases s <;> rfl
      rw [this, this]
    · have p2 : decide (((lim (a.natAbs % b.natAbs)).length : Int) > 0) = true := by
        rw [decide_eq_true_eq]
        rcases Nat.eq_zero_or_pos (lim (a.natAbs % b.natAbs)).length with q | q
        · exact (hR (lim_eq_nil.1 (List.eq_nil_of_length_eq_zero q))).elim
        · omega
      rw [if_pos p2]
      have e1 : ((true, [1]) : Bool × List Int) = zl (-1) := by
        unfold zl
        rw [show (-1 : Int).natAbs = 1 from rfl, lim_1]
        rfl
      have s1 : Sz 1000000 (sgn true (a.natAbs / b.natAbs)) := by
        unfold Sz
        rw [sgn_natAbs]
        omega
      have s2 : Sz 1000000 (-1) := by
        unfold Sz
        rw [show (-1 : Int).natAbs = 1 from rfl, lim_1]
        decide
      have s3 : Sz 1000000 (sgn (decide (a < 0)) (a.natAbs % b.natAbs)) := by
        unfold Sz
        rw [sgn_natAbs]
        omega
      simp only [pe]
      rw [e1, L87_spec s1 s2]
      simp only [Option.bind_some]
      rw [show (decide (b < 0), lim b.natAbs) = zl b from rfl, L87_spec s3 (hb0.mono (by decide))]
      simp only [Option.bind_some]
      obtain ⟨f1, f2⟩ := floor_up hb hs hR
      have g1 : sgn true (a.natAbs / b.natAbs) + -1 = a.fdiv b := by
        rw [f1]
        unfold sgn
        rw [if_pos rfl]
        omega
      have g2 : sgn (decide (a < 0)) (a.natAbs % b.natAbs) + b = a.fmod b := by
        rw [f2]
        have hs' : ¬ (a < 0 ↔ b < 0) := fun q => hs (decide_eq_decide.2 q)
        unfold sgn
        by_cases h : b < 0
        · rw [decide_eq_true h, decide_eq_false (show ¬ a < 0 by omega), if_pos rfl, if_neg (by decide)]
          omega
        · rw [decide_eq_false h, decide_eq_true (show a < 0 by omega), if_pos rfl, if_neg (by decide)]
          omega
      rw [g1, g2]

theorem fdiv_Sz {a b : Int} {k : Nat} (ha : Sz k a) : Sz k (a.fdiv b) := ha.le (Int.natAbs_fdiv_le_natAbs a b)

theorem fmod_le {a b : Int} (hb : b ≠ 0) : (a.fmod b).natAbs ≤ b.natAbs := by
  rcases Int.lt_or_lt_of_ne hb with h | h
  · have := (Int.fdiv_fmod_unique' (a := a) (r := a.fmod b) (q := a.fdiv b) h).1 ⟨rfl, rfl⟩
    omega
  · have := (Int.fdiv_fmod_unique (a := a) (r := a.fmod b) (q := a.fdiv b) h).1 ⟨rfl, rfl⟩
    omega

theorem fmod_Sz {a b : Int} {k : Nat} (hb : b ≠ 0) (h : Sz k b) : Sz k (a.fmod b) := h.le (fmod_le hb)

theorem res_ok {z : Int} (h : Sz 200 z) : res z = (zl z, 0) := by
  unfold res
  unfold Sz at h
  rw [if_neg (by omega)]
end Go.Proofs.Rf
/- The law of Arithmetic returns true. -/
namespace Go.Proofs.Rf
open Go Go.RowKit
theorem ne_zero_beq {e : Int} (h : e ≠ 0) : (!e == 0) = true := by
  rw [Bool.not_eq_true', beq_eq_false_iff_ne]
  exact h

theorem L85_two {a b : Bool × List Int} (ha : a.2.length < 1000000) (hb : b.2.length < 1000000) : L85 ([a, b], ()) = some ((ers [a, b], ()), ()) := L85_spec (by simp) (fun c hc => by
  rcases List.mem_cons.1 hc with rfl | hc
  · omega
  · rw [List.mem_singleton.1 hc]; omega)

theorem zl_len {z : Int} {k : Nat} (h : Sz k z) : (zl z).2.length ≤ k := h

section
variable {x y : Int} (hx : Sz 200 x) (hy : Sz 200 y) (h : ers [zl x, zl y] = 0)
include hx hy h
theorem L33_spec : L33 (zl x, zl y, ()) = some (((res (x + y)).1, (res (x + y)).2, ()), ()) := by
  show F33 L75 L85 L87 (((zl x).1, (zl x).2), ((zl y).1, (zl y).2), ()) = _
  rw [F33_eq]
  simp only [pe]
  rw [L85_two (by have := zl_len hx; omega) (by have := zl_len hy; omega), h]
  simp only [Option.bind_some]
  rw [if_neg (by decide), L87_spec (hx.mono (by decide)) (hy.mono (by decide))]
  simp only [Option.bind_some]
  rw [L75_spec]
  rfl

theorem L35_spec : L35 (zl x, zl y, ()) = some (((res (x - y)).1, (res (x - y)).2, ()), ()) := by
  show F35 L75 L85 L87 L88 (((zl x).1, (zl x).2), ((zl y).1, (zl y).2), ()) = _
  rw [F35_eq]
  simp only [pe]
  rw [L85_two (by have := zl_len hx; omega) (by have := zl_len hy; omega), h]
  simp only [Option.bind_some]
  rw [if_neg (by decide), L88_spec (hy.mono (by decide))]
  simp only [Option.bind_some]
  rw [L87_spec (hx.mono (by decide)) (hy.neg.mono (by decide))]
  simp only [Option.bind_some]
  rw [L75_spec, Int.sub_eq_add_neg]
  rfl

theorem L37_spec : L37 (zl x, zl y, ()) = some (((res (x * y)).1, (res (x * y)).2, ()), ()) := by
  show F37 L75 L85 L89 (((zl x).1, (zl x).2), ((zl y).1, (zl y).2), ()) = _
  rw [F37_eq]
  simp only [pe]
  rw [L85_two (by have := zl_len hx; omega) (by have := zl_len hy; omega), h]
  simp only [Option.bind_some]
  rw [if_neg (by decide), L89_spec (hx.mono (by decide)) (hy.mono (by decide))]
  simp only [Option.bind_some]
  rw [L75_spec]
  rfl

theorem L39_spec (h0 : y ≠ 0) : L39 (zl x, zl y, ()) = some ((zl (x.fdiv y), zl (x.fmod y), 0, ()), ()) := by
  show F39 L52 L53 L85 L90 (((zl x).1, (zl x).2), ((zl y).1, (zl y).2), ()) = _
  rw [F39_eq]
  simp only [pe]
  rw [L85_two (by have := zl_len hx; omega) (by have := zl_len hy; omega), h, L53_spec]
  simp only [Option.bind_some]
  have p : (((zl y).2.length : Int) == 0) = false := by
    rw [beq_eq_false_iff_ne, zl_2]
    intro q
    have := lim_eq_nil.1 (List.eq_nil_of_length_eq_zero (show (lim y.natAbs).length = 0 by omega))
    omega
  rw [p, L52_two]
  simp only [Bool.false_eq_true, if_false, Option.bind_some, fst2, if_true]
  rw [if_neg (by decide), L90_spec h0 (hx.mono (by decide)) (hy.mono (by decide))]
  simp only [Option.bind_some]
  have s1 := zl_len (fdiv_Sz (b := y) hx)
  have s2 := zl_len (fmod_Sz (a := x) h0 hy)
  have p1 : decide (((zl (x.fdiv y)).2.length : Int) > 200) = false := by rw [decide_eq_false_iff_not]; omega
  have p2 : decide (((zl (x.fmod y)).2.length : Int) > 200) = false := by rw [decide_eq_false_iff_not]; omega
  rw [p1, p2, L53_spec]
  simp only [Bool.false_eq_true, if_false, Option.bind_some]
  rw [L52_two]
  simp only [Option.bind_some, fst2, if_true]
  rw [if_neg (by decide)]

theorem L41_spec : L41 (zl x, zl y, ()) = some ((if x < y then -1 else if x = y then 0 else 1, 0, ()), ()) := by
  show F41 L85 L87 L88 (((zl x).1, (zl x).2), ((zl y).1, (zl y).2), ()) = _
  rw [F41_eq]
  simp only [pe]
  rw [L85_two (by have := zl_len hx; omega) (by have := zl_len hy; omega), h]
  simp only [Option.bind_some]
  rw [if_neg (by decide), L88_spec (hy.mono (by decide))]
  simp only [Option.bind_some]
  rw [L87_spec (hx.mono (by decide)) (hy.neg.mono (by decide))]
  simp only [Option.bind_some]
  by_cases c1 : x < y
  · have p : (((zl (x + -y)).2.length : Int) == 0) = false := by
      rw [beq_eq_false_iff_ne, zl_2]
      intro q
      have := lim_eq_nil.1 (List.eq_nil_of_length_eq_zero (show (lim (x + -y).natAbs).length = 0 by omega))
      omega
    rw [p, if_pos c1, zl_1, decide_eq_true (show x + -y < 0 by omega)]
    rfl
  · rw [if_neg c1]
    by_cases c2 : x = y
    · have p : (((zl (x + -y)).2.length : Int) == 0) = true := by
        rw [beq_iff_eq, zl_2, show x + -y = 0 by omega, show (0 : Int).natAbs = 0 from rfl, lim_zero]
        rfl
      rw [if_pos p, if_pos c2]
    · have p : (((zl (x + -y)).2.length : Int) == 0) = false := by
        rw [beq_eq_false_iff_ne, zl_2]
        intro q
        have := lim_eq_nil.1 (List.eq_nil_of_length_eq_zero (show (lim (x + -y).natAbs).length = 0 by omega))
        omega
      rw [p, if_neg c2, zl_1, decide_eq_false (show ¬ x + -y < 0 by omega)]
      rfl
end
section
variable {a b : Bool × List Int} (wa : Wf a.2) (wb : Wf b.2) (ha : a.2.length < 1000000) (hb : b.2.length < 1000000)
include wa wb ha hb
end
end Go.Proofs.Rf
/- Euclid's steps. -/
namespace Go.Proofs.Rf
open Go Go.RowKit

/-- The greatest common divisor with its factors. -/
def eu (r s : Nat) (x1 y1 x2 y2 : Int) : Nat × Int × Int :=
  if _h : s = 0 then (r, x1, y1) else eu s (r % s) x2 y2 (x1 - ((r / s : Nat) : Int) * x2) (y1 - ((r / s : Nat) : Int) * y2)
termination_by s
decreasing_by exact Nat.mod_lt _ (by omega)

theorem eu_zero (r : Nat) (x1 y1 x2 y2 : Int) : eu r 0 x1 y1 x2 y2 = (r, x1, y1) := by rw [eu, dif_pos rfl]
theorem eu_pos {r s : Nat} (h : s ≠ 0) (x1 y1 x2 y2 : Int) : eu r s x1 y1 x2 y2 = eu s (r % s) x2 y2 (x1 - ((r / s : Nat) : Int) * x2) (y1 - ((r / s : Nat) : Int) * y2) := by rw [eu, dif_neg h]

/-- What Euclid's steps keep. -/
structure EOK (A B r s : Nat) (x1 y1 x2 y2 : Int) : Prop where
  b1 : x1 * A + y1 * B = r
  b2 : x2 * A + y2 * B = s
  hr : r ≤ A + B + 1
  hs : s ≤ A + B + 1
  ex : ∃ (e : Int) (X1 Y1 X2 Y2 : Nat), (e = 1 ∨ e = -1) ∧ x1 = e * X1 ∧ x2 = -e * X2 ∧ y1 = -e * Y1 ∧ y2 = e * Y2 ∧ r * X2 + s * X1 = B ∧ r * Y2 + s * Y1 = A ∧ X1 ≤ A + B + 1 ∧ X2 ≤ A + B + 1 ∧ Y1 ≤ A + B + 1 ∧ Y2 ≤ A + B + 1

theorem EOK.start (A B : Nat) : EOK A B A B 1 0 0 1 :=
  ⟨by simp, by simp, by omega, by omega, 1, 1, 0, 0, 1, .inl rfl, by simp, by simp, by simp, by simp, by simp, by simp, by omega, by omega, by omega, by omega⟩

theorem natAbs_sign {e : Int} (h : e = 1 ∨ e = -1) (X : Nat) : (e * X).natAbs = X ∧ (-e * X).natAbs = X := by
  rcases h with rfl | rfl <;> constructor <;> simp

theorem EOK.bounds {A B r s : Nat} {x1 y1 x2 y2 : Int} (h : EOK A B r s x1 y1 x2 y2) : x1.natAbs ≤ A + B + 1 ∧ y1.natAbs ≤ A + B + 1 ∧ x2.natAbs ≤ A + B + 1 ∧ y2.natAbs ≤ A + B + 1 := by
  obtain ⟨e, X1, Y1, X2, Y2, he, rfl, rfl, rfl, rfl, _, _, h1, h2, h3, h4⟩ := h.ex
  rw [(natAbs_sign he X1).1, (natAbs_sign he X2).2, (natAbs_sign he Y1).2, (natAbs_sign he Y2).1]
  exact ⟨h1, h3, h2, h4⟩

theorem le_of_mul {s X B : Nat} (hs : s ≠ 0) (h : s * X ≤ B) : X ≤ B := by
  have := Nat.le_mul_of_pos_left X (Nat.pos_of_ne_zero hs)
  omega

theorem EOK.step {A B r s : Nat} {x1 y1 x2 y2 : Int} (h : EOK A B r s x1 y1 x2 y2) (hs : s ≠ 0) :
    EOK A B s (r % s) x2 y2 (x1 - ((r / s : Nat) : Int) * x2) (y1 - ((r / s : Nat) : Int) * y2) ∧ (((r / s : Nat) : Int) * x2).natAbs ≤ A + B + 1 ∧ (((r / s : Nat) : Int) * y2).natAbs ≤ A + B + 1 := by
  obtain ⟨e, X1, Y1, X2, Y2, he, rfl, rfl, rfl, rfl, k1, k2, l1, l2, l3, l4⟩ := h.ex
  have hb1 := h.b1
  have hb2 := h.b2
  have hr := h.hr
  have hs' := h.hs
  have dm := Nat.div_add_mod r s
  have hm := Nat.mod_lt r (Nat.pos_of_ne_zero hs)
  generalize r / s = q at *
  generalize r % s = t at *
  have m1 : s * (X1 + q * X2) + t * X2 = B := by rw [← k1, ← dm]; grind
  have m2 : s * (Y1 + q * Y2) + t * Y2 = A := by rw [← k2, ← dm]; grind
  have n1 : X1 + q * X2 ≤ B := le_of_mul hs (by omega)
  have n2 : Y1 + q * Y2 ≤ A := le_of_mul hs (by omega)
  have dm' : ((s : Int)) * q + t = r := by rw [← dm]; simp only [Int.natCast_add, Int.natCast_mul]
  have g1 : (((q : Nat) : Int) * (-e * X2)).natAbs = q * X2 := by
    have : ((q : Nat) : Int) * (-e * X2) = -e * ((q * X2 : Nat) : Int) := by rw [Int.natCast_mul]; grind
    rw [this, (natAbs_sign he _).2]
  have g2 : (((q : Nat) : Int) * (e * Y2)).natAbs = q * Y2 := by
    have : ((q : Nat) : Int) * (e * Y2) = e * ((q * Y2 : Nat) : Int) := by rw [Int.natCast_mul]; grind
    rw [this, (natAbs_sign he _).1]
  refine ⟨⟨hb2, ?_, by omega, by omega, -e, X2, Y2, X1 + q * X2, Y1 + q * Y2, ?_, by grind, ?_, by grind, ?_, by omega, by omega, by omega, by omega, by omega, by omega⟩, by omega, by omega⟩
  · grind
  · rcases he with rfl | rfl
    · exact .inr rfl
    · exact .inl rfl
  · simp only [Int.natCast_add, Int.natCast_mul]
    grind
  · simp only [Int.natCast_add, Int.natCast_mul]
    grind

/-- What the greatest common divisor is known by. -/
theorem eu_spec (A B : Nat) : ∀ (s r : Nat) (x1 y1 x2 y2 : Int), EOK A B r s x1 y1 x2 y2 →
    (eu r s x1 y1 x2 y2).2.1 * A + (eu r s x1 y1 x2 y2).2.2 * B = (eu r s x1 y1 x2 y2).1 ∧ (∃ u, A = (eu r s x1 y1 x2 y2).1 * u) ∧ (∃ u, B = (eu r s x1 y1 x2 y2).1 * u) ∧
    (eu r s x1 y1 x2 y2).1 ≤ A + B + 1 ∧ (eu r s x1 y1 x2 y2).2.1.natAbs ≤ A + B + 1 ∧ (eu r s x1 y1 x2 y2).2.2.natAbs ≤ A + B + 1 := by
  intro s
  induction s using Nat.strongRecOn with
  | _ s ih =>
    intro r x1 y1 x2 y2 h
    by_cases hs : s = 0
    · subst hs
      rw [eu_zero]
      have hb := h.bounds
      obtain ⟨e, X1, Y1, X2, Y2, _, _, _, _, _, k1, k2, _⟩ := h.ex
      exact ⟨h.b1, ⟨Y2, by simp only; omega⟩, ⟨X2, by simp only; omega⟩, h.hr, hb.1, hb.2.1⟩
    · rw [eu_pos hs]
      exact ih _ (Nat.mod_lt _ (Nat.pos_of_ne_zero hs)) _ _ _ _ _ (h.step hs).1

theorem zl_zero : zl 0 = (false, []) := by
  unfold zl
  rw [show (0 : Int).natAbs = 0 from rfl, lim_zero]
  rfl
theorem zl_one : zl 1 = (false, lim 1) := rfl

theorem ers_zl {x y : Int} (hx : Sz 200 x) (hy : Sz 200 y) : ers [zl x, zl y] = 0 := by
  rw [ers_two, zl_1, zl_2, err_zl hx, zl_1, zl_2, err_zl hy]
  rfl

theorem L86_spec {x q y : Int} (hx : Sz 400 x) (hq : Sz 200 q) (hy : Sz 200 y) : L86 (zl x, zl y, zl q, ()) = some ((zl (x - q * y), ()), ()) := by
  have hm := hq.mul hy
  show F86 L87 L88 L89 (((zl x).1, (zl x).2), ((zl y).1, (zl y).2), ((zl q).1, (zl q).2), ()) = _
  rw [F86_eq]
  simp only [pe]
  rw [L89_spec (hq.mono (by decide)) (hy.mono (by decide))]
  simp only [Option.bind_some]
  rw [L88_spec (hm.mono (by decide))]
  simp only [Option.bind_some]
  rw [L87_spec (hx.mono (by decide)) (hm.neg.mono (by decide))]
  simp only [Option.bind_some]
  rw [Int.sub_eq_add_neg]
end Go.Proofs.Rf
/- Gcd, in both texts. -/
namespace Go.Proofs.Rf
open Go Go.RowKit

theorem Sz_of_le {n : Nat} {z : Int} (k : Nat) (hn : (lim n).length ≤ k) (h : z.natAbs ≤ n) : Sz k z := Nat.le_trans (lim_length_mono h) hn

theorem d02 : ((0 : Int) < 2) = True := by decide
theorem d12 : ((1 : Int) < 2) = True := by decide
theorem d22 : ((2 : Int) < 2) = False := by decide
theorem n10 : ((1 : Int) = 0) = False := by decide
theorem n01 : ((0 : Int) = 1) = False := by decide
theorem w01 : IntKind.i64.wrap (0 + 1) = 1 := by decide
theorem w12 : IntKind.i64.wrap (1 + 1) = 2 := by decide

abbrev oz (x : Int) : Bool × List Int × Unit := ((zl x).1, (zl x).2, ())

theorem zl_len0 {n : Nat} : (((zl (n : Int)).2.length : Int) == 0) = decide (n = 0) := by
  rw [zl_2, Int.natAbs_natCast]
  by_cases h : n = 0
  · subst h
    rw [lim_zero]
    rfl
  · rw [decide_eq_false h, beq_eq_false_iff_ne]
    intro q
    exact h (lim_eq_nil.1 (List.eq_nil_of_length_eq_zero (by omega)))

theorem fdiv_nat (r s : Nat) : ((r : Int)).fdiv (s : Int) = ((r / s : Nat) : Int) := by
  rw [Int.fdiv_eq_ediv_of_nonneg _ (Int.natCast_nonneg s)]
  rfl
theorem fmod_nat (r s : Nat) : ((r : Int)).fmod (s : Int) = ((r % s : Nat) : Int) := by
  rw [Int.fmod_eq_emod_of_nonneg _ (Int.natCast_nonneg s)]
  rfl

/-- Sizes in Euclid's steps. -/
structure ESz (A B r s : Nat) (x1 y1 x2 y2 : Int) : Prop where
  zr : Sz 100 (r : Int)
  zs : Sz 100 (s : Int)
  zq : Sz 100 ((r / s : Nat) : Int)
  zt : Sz 100 ((r % s : Nat) : Int)
  zx1 : Sz 100 x1
  zy1 : Sz 100 y1
  zx2 : Sz 100 x2
  zy2 : Sz 100 y2
  zqx : Sz 100 (((r / s : Nat) : Int) * x2)
  zqy : Sz 100 (((r / s : Nat) : Int) * y2)
  zdx : Sz 100 (x1 - ((r / s : Nat) : Int) * x2)
  zdy : Sz 100 (y1 - ((r / s : Nat) : Int) * y2)

theorem EOK.sz {A B r s : Nat} {x1 y1 x2 y2 : Int} (hN : (lim (A + B + 1)).length ≤ 100) (h : EOK A B r s x1 y1 x2 y2) (hs : s ≠ 0) : ESz A B r s x1 y1 x2 y2 := by
  obtain ⟨h1, hqx, hqy⟩ := h.step hs
  have b0 := h.bounds
  have b1 := h1.bounds
  have hr := h.hr
  have hs' := h.hs
  have hq := Nat.div_le_self r s
  have ht := Nat.mod_le r s
  have k := @Sz_of_le (A + B + 1)
  exact ⟨k 100 hN (by omega), k 100 hN (by omega), k 100 hN (by rw [Int.natAbs_natCast]; omega), k 100 hN (by rw [Int.natAbs_natCast]; omega), k 100 hN b0.1, k 100 hN b0.2.1, k 100 hN b0.2.2.1, k 100 hN b0.2.2.2, k 100 hN hqx, k 100 hN hqy, k 100 hN b1.2.2.1, k 100 hN b1.2.2.2⟩

/-- What Gcd comes to. -/
def gcdOf (a b : Int) : Nat × Int × Int :=
  ((eu a.natAbs b.natAbs 1 0 0 1).1, if a < 0 then -(eu a.natAbs b.natAbs 1 0 0 1).2.1 else (eu a.natAbs b.natAbs 1 0 0 1).2.1, if b < 0 then -(eu a.natAbs b.natAbs 1 0 0 1).2.2 else (eu a.natAbs b.natAbs 1 0 0 1).2.2)

theorem gcd_N {a b : Int} (ha : Sz 90 a) (hb : Sz 90 b) : (lim (a.natAbs + b.natAbs + 1)).length ≤ 100 := by
  have h1 := lim_add_length a.natAbs b.natAbs
  have h2 := lim_add_length (a.natAbs + b.natAbs) 1
  have hl1 : (lim 1).length = 1 := by rw [lim_1]; rfl
  unfold Sz at ha hb
  omega

/-! ### The program -/
abbrev tz (r x y : Int) : Bool × List Int × Bool × List Int × Bool × List Int × Unit := ((zl r).1, (zl r).2, (zl x).1, (zl x).2, (zl y).1, (zl y).2, ())

theorem Lg29_12_spec {r s t x1 y1 x2 y2 q : Int} {a b c : Bool × List Int × Unit} {p : Bool × List Int × Bool × List Int × Unit}
    (h1 : L86 (zl x1, zl x2, zl q, ()) = some ((zl (x1 - q * x2), ()), ())) (h2 : L86 (zl y1, zl y2, zl q, ()) = some ((zl (y1 - q * y2), ()), ())) :
    Lg29_12 (((), (), (), (), (), (), (), (), (), 0, ()), (a, b, c, p, tz r x1 y1, tz s x2 y2, oz q, ((zl t).1, (zl t).2, false, [], false, [], ()), ())) =
      some (((), (), (), (), (), (), (), (), ()), (a, b, c, p, tz r x1 y1, tz s x2 y2, tz t (x1 - q * x2) (y1 - q * y2), ())) := by
  obtain ⟨a0, a1, ⟨⟩⟩ := a
  obtain ⟨b0, b1, ⟨⟩⟩ := b
  obtain ⟨e0, e1, ⟨⟩⟩ := c
  obtain ⟨p0, p1, p2, p3, ⟨⟩⟩ := p
  have r0 := S29_12_eq L86 0 a0 a1 b0 b1 e0 e1 p0 p1 p2 p3 (zl r).1 (zl r).2 (zl x1).1 (zl x1).2 (zl y1).1 (zl y1).2 (zl s).1 (zl s).2 (zl x2).1 (zl x2).2 (zl y2).1 (zl y2).2 (zl q).1 (zl q).2 (zl t).1 (zl t).2 false [] false []
  have r1 := S29_12_eq L86 1 a0 a1 b0 b1 e0 e1 p0 p1 p2 p3 (zl r).1 (zl r).2 (zl x1).1 (zl x1).2 (zl y1).1 (zl y1).2 (zl s).1 (zl s).2 (zl x2).1 (zl x2).2 (zl y2).1 (zl y2).2 (zl q).1 (zl q).2 (zl t).1 (zl t).2 (zl (x1 - q * x2)).1 (zl (x1 - q * x2)).2 false []
  have r2 := S29_12_eq L86 2 a0 a1 b0 b1 e0 e1 p0 p1 p2 p3 (zl r).1 (zl r).2 (zl x1).1 (zl x1).2 (zl y1).1 (zl y1).2 (zl s).1 (zl s).2 (zl x2).1 (zl x2).2 (zl y2).1 (zl y2).2 (zl q).1 (zl q).2 (zl t).1 (zl t).2 (zl (x1 - q * x2)).1 (zl (x1 - q * x2)).2 (zl (y1 - q * y2)).1 (zl (y1 - q * y2)).2
  simp only [decide_eq_true_eq, d02, n01, if_true, if_false, w01, pe] at r0
  rw [h1] at r0
  simp only [Option.bind_some] at r0
  simp only [decide_eq_true_eq, d12, n10, if_true, if_false, w12, pe] at r1
  rw [h2] at r1
  simp only [Option.bind_some] at r1
  simp only [decide_eq_true_eq, d22, if_false] at r2
  show limL (S29_12 L86) _ = _
  rw [limL_eq, r0]
  simp only
  rw [limL_eq, r1]
  simp only
  rw [limL_eq, r2]

theorem S29_8_step {A B r s : Nat} {x1 y1 x2 y2 : Int} {a b c : Bool × List Int × Unit} {p : Bool × List Int × Bool × List Int × Unit} (hN : (lim (A + B + 1)).length ≤ 100) (h : EOK A B r s x1 y1 x2 y2) (hs : s ≠ 0) :
    S29_8 L90 Lg29_12 (((), (), (), (), (), (), (), ()), (a, b, c, p, tz r x1 y1, tz s x2 y2, ())) =
      some (.inl (((), (), (), (), (), (), (), ()), (a, b, c, p, tz s x2 y2, tz ((r % s : Nat) : Int) (x1 - ((r / s : Nat) : Int) * x2) (y1 - ((r / s : Nat) : Int) * y2), ()))) := by
  have z := h.sz hN hs
  obtain ⟨a0, a1, ⟨⟩⟩ := a
  obtain ⟨b0, b1, ⟨⟩⟩ := b
  obtain ⟨e0, e1, ⟨⟩⟩ := c
  obtain ⟨p0, p1, p2, p3, ⟨⟩⟩ := p
  have e := S29_8_eq L90 Lg29_12 a0 a1 b0 b1 e0 e1 p0 p1 p2 p3 (zl (r : Int)).1 (zl (r : Int)).2 (zl x1).1 (zl x1).2 (zl y1).1 (zl y1).2 (zl (s : Int)).1 (zl (s : Int)).2 (zl x2).1 (zl x2).2 (zl y2).1 (zl y2).2
  have hp : ¬ (((zl (s : Int)).2.length : Int) == 0) = true := by rw [zl_len0, decide_eq_true_eq]; exact hs
  rw [if_neg hp] at e
  simp only [pe] at e
  rw [L90_spec (by omega) (z.zr.mono (by decide)) (z.zs.mono (by decide)), fdiv_nat, fmod_nat] at e
  simp only [Option.bind_some] at e
  have hi := Lg29_12_spec (r := (r : Int)) (s := (s : Int)) (t := ((r % s : Nat) : Int)) (x1 := x1) (y1 := y1) (x2 := x2) (y2 := y2) (q := ((r / s : Nat) : Int)) (a := (a0, a1, ())) (b := (b0, b1, ())) (c := (e0, e1, ())) (p := (p0, p1, p2, p3, ()))
    (L86_spec (z.zx1.mono (by decide)) (z.zq.mono (by decide)) (z.zx2.mono (by decide)))
    (L86_spec (z.zy1.mono (by decide)) (z.zq.mono (by decide)) (z.zy2.mono (by decide)))
  rw [hi] at e
  exact e

theorem Lg29_8_spec {A B : Nat} {a b c : Bool × List Int × Unit} {p : Bool × List Int × Bool × List Int × Unit} (hN : (lim (A + B + 1)).length ≤ 100) :
    Lg29_8 (((), (), (), (), (), (), (), ()), (a, b, c, p, tz A 1 0, tz B 0 1, ())) =
      some (((), (), (), (), (), ()), (a, b, c, p, tz ((eu A B 1 0 0 1).1 : Nat) (eu A B 1 0 0 1).2.1 (eu A B 1 0 0 1).2.2, ())) := by
  obtain ⟨z, h1, rfl⟩ := limL_ind (f := S29_8 L90 Lg29_12) (fun x => (val x.2.2.2.2.2.2.1.2.1).toNat)
    (fun x => ∃ (r s : Nat) (x1 y1 x2 y2 : Int), x = (((), (), (), (), (), (), (), ()), (a, b, c, p, tz r x1 y1, tz s x2 y2, ())) ∧ EOK A B r s x1 y1 x2 y2 ∧ eu r s x1 y1 x2 y2 = eu A B 1 0 0 1)
    (fun z => z = (((), (), (), (), (), ()), (a, b, c, p, tz ((eu A B 1 0 0 1).1 : Nat) (eu A B 1 0 0 1).2.1 (eu A B 1 0 0 1).2.2, ()))) (by
    rintro x ⟨r, s, x1, y1, x2, y2, rfl, hE, he⟩
    by_cases hs : s = 0
    · right
      subst hs
      rw [eu_zero] at he
      obtain ⟨a0, a1, ⟨⟩⟩ := a
      obtain ⟨b0, b1, ⟨⟩⟩ := b
      obtain ⟨e0, e1, ⟨⟩⟩ := c
      obtain ⟨p0, p1, p2, p3, ⟨⟩⟩ := p
      have e := S29_8_eq L90 Lg29_12 a0 a1 b0 b1 e0 e1 p0 p1 p2 p3 (zl (r : Int)).1 (zl (r : Int)).2 (zl x1).1 (zl x1).2 (zl y1).1 (zl y1).2 (zl ((0 : Nat) : Int)).1 (zl ((0 : Nat) : Int)).2 (zl x2).1 (zl x2).2 (zl y2).1 (zl y2).2
      have hp : (((zl ((0 : Nat) : Int)).2.length : Int) == 0) = true := by rw [zl_len0]; decide
      rw [if_pos hp] at e
      rw [← he]
      exact ⟨_, e, rfl⟩
    · left
      refine ⟨_, S29_8_step hN hE hs, ⟨s, r % s, _, _, _, _, rfl, (hE.step hs).1, by rw [← eu_pos hs]; exact he⟩, ?_⟩
      simp only [zl_2, Int.natAbs_natCast, val_lim]
      have := Nat.mod_lt r (Nat.pos_of_ne_zero hs)
      omega) (((), (), (), (), (), (), (), ()), (a, b, c, p, tz A 1 0, tz B 0 1, ())) ⟨A, B, 1, 0, 0, 1, rfl, EOK.start A B, rfl⟩
  exact h1

theorem S29_18_r0 {a b : Int} {g x y : Int} {c : Bool × List Int × Unit} {p : Bool × List Int × Bool × List Int × Unit} (sx : Sz 150 x) :
    S29_18 L88 (((), (), (), (zl a, zl b), 0, ()), (c, p, tz g x y, ())) = some (.inl (((), (), (), (zl a, zl b), 1, ()), (c, p, tz g (if a < 0 then -x else x) y, ()))) := by
  obtain ⟨e0, e1, ⟨⟩⟩ := c
  obtain ⟨p0, p1, p2, p3, ⟨⟩⟩ := p
  have r0 := S29_18_eq L88 (zl a).1 (zl a).2 (zl b).1 (zl b).2 0 e0 e1 p0 p1 p2 p3 (zl g).1 (zl g).2 (zl x).1 (zl x).2 (zl y).1 (zl y).2
  simp only [decide_eq_true_eq, d02, n01, if_true, if_false, w01] at r0
  by_cases h : a < 0
  · have q1 : (zl a).1 = true := decide_eq_true h
    have l0 : ¬ ((zl (-x)).2.length : Int) > 200 := by have := zl_len sx.neg; omega
    rw [if_pos h]
    rw [if_pos q1] at r0
    simp only [pe] at r0
    rw [L88_spec (sx.mono (by decide))] at r0
    simp only [Option.bind_some] at r0
    rw [if_neg l0] at r0
    exact r0
  · have q1 : ¬ (zl a).1 = true := by rw [zl_1, decide_eq_true_eq]; exact h
    have l0 : ¬ ((zl x).2.length : Int) > 200 := by have := zl_len sx; omega
    rw [if_neg h]
    rw [if_neg q1, if_neg l0] at r0
    exact r0

theorem S29_18_r1 {a b : Int} {g x y : Int} {c : Bool × List Int × Unit} {p : Bool × List Int × Bool × List Int × Unit} (sy : Sz 150 y) :
    S29_18 L88 (((), (), (), (zl a, zl b), 1, ()), (c, p, tz g x y, ())) = some (.inl (((), (), (), (zl a, zl b), 2, ()), (c, p, tz g x (if b < 0 then -y else y), ()))) := by
  obtain ⟨e0, e1, ⟨⟩⟩ := c
  obtain ⟨p0, p1, p2, p3, ⟨⟩⟩ := p
  have r0 := S29_18_eq L88 (zl a).1 (zl a).2 (zl b).1 (zl b).2 1 e0 e1 p0 p1 p2 p3 (zl g).1 (zl g).2 (zl x).1 (zl x).2 (zl y).1 (zl y).2
  simp only [decide_eq_true_eq, d12, n10, if_true, if_false, w12] at r0
  by_cases h : b < 0
  · have q1 : (zl b).1 = true := decide_eq_true h
    have l0 : ¬ ((zl (-y)).2.length : Int) > 200 := by have := zl_len sy.neg; omega
    rw [if_pos h]
    rw [if_pos q1] at r0
    simp only [pe] at r0
    rw [L88_spec (sy.mono (by decide))] at r0
    simp only [Option.bind_some] at r0
    rw [if_neg l0] at r0
    exact r0
  · have q1 : ¬ (zl b).1 = true := by rw [zl_1, decide_eq_true_eq]; exact h
    have l0 : ¬ ((zl y).2.length : Int) > 200 := by have := zl_len sy; omega
    rw [if_neg h]
    rw [if_neg q1, if_neg l0] at r0
    exact r0

theorem S29_18_r2 {a b : Int} {g x y : Int} {c : Bool × List Int × Unit} {p : Bool × List Int × Bool × List Int × Unit} :
    S29_18 L88 (((), (), (), (zl a, zl b), 2, ()), (c, p, tz g x y, ())) = some (.inr (.inr (((), (), (), ()), (c, p, tz g x y, ())))) := by
  obtain ⟨e0, e1, ⟨⟩⟩ := c
  obtain ⟨p0, p1, p2, p3, ⟨⟩⟩ := p
  have r0 := S29_18_eq L88 (zl a).1 (zl a).2 (zl b).1 (zl b).2 2 e0 e1 p0 p1 p2 p3 (zl g).1 (zl g).2 (zl x).1 (zl x).2 (zl y).1 (zl y).2
  simp only [decide_eq_true_eq, d22, if_false] at r0
  exact r0

/-- The signs. -/
theorem Lg29_18_spec {a b : Int} {g x y : Int} {c : Bool × List Int × Unit} {p : Bool × List Int × Bool × List Int × Unit} (sx : Sz 150 x) (sy : Sz 150 y) :
    Lg29_18 (((), (), (), (zl a, zl b), 0, ()), (c, p, tz g x y, ())) = some (.inr (((), (), (), ()), (c, p, tz g (if a < 0 then -x else x) (if b < 0 then -y else y), ()))) := by
  have r0 := S29_18_r0 (a := a) (b := b) (g := g) (y := y) (c := c) (p := p) sx
  have r1 := S29_18_r1 (a := a) (b := b) (g := g) (x := if a < 0 then -x else x) (c := c) (p := p) sy
  have r2 := S29_18_r2 (a := a) (b := b) (g := g) (x := if a < 0 then -x else x) (y := if b < 0 then -y else y) (c := c) (p := p)
  have h0 := limL_eq (S29_18 L88) (((), (), (), (zl a, zl b), 0, ()), (c, p, tz g x y, ()))
  have h1 := limL_eq (S29_18 L88) (((), (), (), (zl a, zl b), 1, ()), (c, p, tz g (if a < 0 then -x else x) y, ()))
  have h2 := limL_eq (S29_18 L88) (((), (), (), (zl a, zl b), 2, ()), (c, p, tz g (if a < 0 then -x else x) (if b < 0 then -y else y), ()))
  rw [r0] at h0
  rw [r1] at h1
  rw [r2] at h2
  exact h0.trans (h1.trans h2)

theorem L29_spec {a b : Int} (ha : Sz 90 a) (hb : Sz 90 b) : L29 (zl a, zl b, ()) = some ((zl ((gcdOf a b).1 : Int), (zl (gcdOf a b).2.1, zl (gcdOf a b).2.2), 0, ()), ()) := by
  have hN := gcd_N ha hb
  obtain ⟨hbz, _, _, hg, hx, hy⟩ := eu_spec a.natAbs b.natAbs b.natAbs a.natAbs 1 0 0 1 (EOK.start _ _)
  have hL := Lg29_8_spec (A := a.natAbs) (B := b.natAbs) (a := oz a) (b := oz b) (c := (false, [], ())) (p := (false, [], false, [], ())) hN
  have hS := Lg29_18_spec (a := a) (b := b) (g := ((eu a.natAbs b.natAbs 1 0 0 1).1 : Int)) (x := (eu a.natAbs b.natAbs 1 0 0 1).2.1) (y := (eu a.natAbs b.natAbs 1 0 0 1).2.2) (c := (false, [], ())) (p := (false, [], false, [], ())) ((Sz_of_le 100 hN hx).mono (by decide)) ((Sz_of_le 100 hN hy).mono (by decide))
  show F29 L58 L61 L63 L85 Lg29_8 Lg29_18 (((zl a).1, (zl a).2), ((zl b).1, (zl b).2), ()) = _
  rw [F29_eq]
  simp only [pe]
  have la := zl_len ha
  have lb := zl_len hb
  rw [zl_2] at la lb
  have hl1 : (lim 1).length = 1 := by rw [lim_1]; rfl
  rw [L85_two (by rw [zl_2]; omega) (by rw [zl_2]; omega), ers_zl (ha.mono (by decide)) (hb.mono (by decide)), L58_spec (by decide) (by decide)]
  simp only [Option.bind_some]
  rw [if_neg (by decide), show (1 : Int).toNat = 1 from rfl, L61_gen (by omega), L63_spec, L63_spec]
  simp only [Option.bind_some]
  rw [L61_gen (by omega), L61_gen (by omega)]
  simp only [Option.bind_some]
  have g1 : sgn false 1 = (1 : Int) := rfl
  have ga : sgn false a.natAbs = ((a.natAbs : Nat) : Int) := rfl
  have gb : sgn false b.natAbs = ((b.natAbs : Nat) : Int) := rfl
  rw [g1, ga, gb]
  have e0 : tz ((a.natAbs : Nat) : Int) 1 0 = ((zl ((a.natAbs : Nat) : Int)).1, (zl ((a.natAbs : Nat) : Int)).2, (zl 1).1, (zl 1).2, false, [], ()) := by unfold tz; rw [zl_zero]
  have e1 : tz ((b.natAbs : Nat) : Int) 0 1 = ((zl ((b.natAbs : Nat) : Int)).1, (zl ((b.natAbs : Nat) : Int)).2, false, [], (zl 1).1, (zl 1).2, ()) := by unfold tz; rw [zl_zero]
  rw [e0, e1] at hL
  rw [hL]
  simp only [Option.bind_some, pe]
  rw [hS]
  rfl

end Go.Proofs.Rf
/- Power, in both texts. -/
namespace Go.Proofs.Rf
open Go Go.RowKit

theorem zl_nat (n : Nat) : zl (n : Int) = (false, lim n) := by
  unfold zl
  rw [decide_eq_false (Int.not_lt.2 (Int.natCast_nonneg n)), Int.natAbs_natCast]

theorem Sz_nat {k n : Nat} : Sz k (n : Int) ↔ (lim n).length ≤ k := by
  unfold Sz
  rw [Int.natAbs_natCast]

/-- The exponent's next bit. -/
theorem pow_bit {A m n k : Nat} : (A ^ (n / 2 ^ (k + 1)) % m * (A ^ (n / 2 ^ (k + 1)) % m)) % m = A ^ (2 * (n / 2 ^ (k + 1))) % m := by
  rw [← Nat.mul_mod, ← Nat.pow_add]
  congr 2
  omega

theorem pow_bit1 {A m n k : Nat} (h : n / 2 ^ k % 2 = 1) : (A ^ (2 * (n / 2 ^ (k + 1))) % m * A) % m = A ^ (n / 2 ^ k) % m := by
  rw [Nat.mod_mul_mod, ← Nat.pow_succ]
  congr 2
  rw [Nat.pow_succ, ← Nat.div_div_eq_div_mul]
  omega

theorem pow_bit0 {A m n k : Nat} (h : ¬ n / 2 ^ k % 2 = 1) : A ^ (2 * (n / 2 ^ (k + 1))) % m = A ^ (n / 2 ^ k) % m := by
  congr 2
  rw [Nat.pow_succ, ← Nat.div_div_eq_div_mul]
  omega

theorem mod_small {x m k : Nat} (hm : m ≠ 0) (h : (lim m).length ≤ k) : (lim (x % m)).length ≤ k := Nat.le_trans (lim_length_mono (Nat.le_of_lt (Nat.mod_lt x (Nat.pos_of_ne_zero hm)))) h

theorem bl_len (n : Nat) : bl n ≤ 32 * (lim n).length := by
  have := lim_lt n
  rw [B_pow] at this
  exact bl_le_of this

theorem bit_cond (n k : Nat) : (bitop BinOp.and IntKind.u32 (Int.fdiv ((lim n).getD (k / 32) 0) (2 ^ (k % 32))) 1 == 1) = decide (n / 2 ^ k % 2 = 1) := by
  rw [bit_val (Wf_lim n) (val_lim n) k]
  by_cases h : n / 2 ^ k % 2 = 1
  · rw [h]
    rfl
  · rw [decide_eq_false h, beq_eq_false_iff_ne]
    omega

section
variable {A m n : Nat} (hm : m ≠ 0) (hml : (lim m).length ≤ 200) (hA : A < m) (hn : (lim n).length ≤ 200)
include hm hml hA hn
theorem S31_step {c : Bool × List Int × Unit} {k : Nat} (hk : k < 32 * (lim n).length) :
    S31_7 L89 L90 (((), (), (), (), (), (k : Int), ()), ((false, lim n, ()), oz m, c, oz A, oz ((A ^ (n / 2 ^ (k + 1)) % m : Nat) : Int), ())) =
      some (.inl (((), (), (), (), (), (k : Int) - 1, ()), ((false, lim n, ()), oz m, c, oz A, oz ((A ^ (n / 2 ^ k) % m : Nat) : Int), ()))) := by
  obtain ⟨c0, c1, ⟨⟩⟩ := c
  have H := S31_7_eq L89 L90 (k : Int) false (lim n) (zl (m : Int)).1 (zl (m : Int)).2 c0 c1 (zl (A : Int)).1 (zl (A : Int)).2 (zl ((A ^ (n / 2 ^ (k + 1)) % m : Nat) : Int)).1 (zl ((A ^ (n / 2 ^ (k + 1)) % m : Nat) : Int)).2
  have hAl : Sz 200 (A : Int) := Sz_nat.2 (Nat.le_trans (lim_length_mono (Nat.le_of_lt hA)) hml)
  have hP : Sz 200 ((A ^ (n / 2 ^ (k + 1)) % m : Nat) : Int) := Sz_nat.2 (mod_small hm hml)
  have hPP := hP.mul hP
  have hml' : Sz 200 (m : Int) := Sz_nat.2 hml
  have hm' : (m : Int) ≠ 0 := by omega
  have e1 := wi_div (j := k) (by omega)
  have e2 := wi_mod k
  have e3 : IntKind.i64.wrap ((k : Int) - 1) = (k : Int) - 1 := wi (by omega) (by omega)
  have p0 : (k : Int) ≥ 0 := by omega
  have p1 : (0 : Int) ≤ ((k / 32 : Nat) : Int) := by omega
  have p2 : ¬ ((k % 32 : Nat) : Int) < 0 := by omega
  have p3 : ((k / 32 : Nat) : Int) < ((lim n).length : Int) := by omega
  have e4 : min (k % 32) 32 = k % 32 := by omega
  rw [if_pos (by rw [decide_eq_true_eq]; exact p0)] at H
  simp only [pe] at H
  rw [L89_spec (hP.mono (by decide)) (hP.mono (by decide))] at H
  simp only [Option.bind_some] at H
  rw [L90_spec hm' (hPP.mono (by decide)) (hml'.mono (by decide))] at H
  simp only [Option.bind_some, e1, e2, e3, p1, p2, p3, if_true, if_false, Int.toNat_natCast, e4] at H
  rw [bit_cond n k, ← Int.natCast_mul, fmod_nat, pow_bit] at H
  have hP2 : Sz 200 ((A ^ (2 * (n / 2 ^ (k + 1))) % m : Nat) : Int) := Sz_nat.2 (mod_small hm hml)
  by_cases hb : n / 2 ^ k % 2 = 1
  · rw [if_pos (decide_eq_true hb)] at H
    have hPA := hP2.mul hAl
    rw [L89_spec (hP2.mono (by decide)) (hAl.mono (by decide))] at H
    simp only [Option.bind_some] at H
    rw [L90_spec hm' (hPA.mono (by decide)) (hml'.mono (by decide)), ← Int.natCast_mul, fmod_nat, pow_bit1 hb] at H
    exact H
  · rw [if_neg (by rw [decide_eq_true_eq]; exact hb), pow_bit0 hb] at H
    exact H

theorem Lg31_spec {c : Bool × List Int × Unit} :
    Lg31_7 (((), (), (), (), (), (bl n : Int) - 1, ()), ((false, lim n, ()), oz m, c, oz A, oz ((1 % m : Nat) : Int), ())) =
      some (((), (), ()), (c, oz ((A ^ n % m : Nat) : Int), ())) := by
  obtain ⟨z, h1, rfl⟩ := limL_ind (f := S31_7 L89 L90) (fun x => (x.1.2.2.2.2.2.1 + 1).toNat)
    (fun x => ∃ k : Nat, x = (((), (), (), (), (), (k : Int) - 1, ()), ((false, lim n, ()), oz m, c, oz A, oz ((A ^ (n / 2 ^ k) % m : Nat) : Int), ())) ∧ k ≤ 32 * (lim n).length)
    (fun z => z = (((), (), ()), (c, oz ((A ^ n % m : Nat) : Int), ()))) (by
    rintro x ⟨k, rfl, hk⟩
    rcases Nat.eq_zero_or_pos k with rfl | hp
    · right
      refine ⟨_, ?_, rfl⟩
      obtain ⟨c0, c1, ⟨⟩⟩ := c
      rw [S31_7_eq, Nat.pow_zero, Nat.div_one]
      rfl
    · left
      obtain ⟨k, rfl⟩ : ∃ k', k = k' + 1 := ⟨k - 1, by omega⟩
      have hst := S31_step hm hml hA hn (c := c) (show k < 32 * (lim n).length by omega)
      rw [show (k : Int) = ((k + 1 : Nat) : Int) - 1 by omega] at hst
      exact ⟨_, hst, ⟨k, by rw [show ((k + 1 : Nat) : Int) - 1 - 1 = (k : Int) - 1 by omega], by omega⟩, by simp only; omega⟩) (((), (), (), (), (), (bl n : Int) - 1, ()), ((false, lim n, ()), oz m, c, oz A, oz ((1 % m : Nat) : Int), ())) ⟨bl n, by rw [Nat.div_eq_of_lt (bl_lt n), Nat.pow_zero], bl_len n⟩
  exact h1
end
theorem three_small {a b c : Bool × List Int} (ha : a.2.length < 1000000) (hb : b.2.length < 1000000) (hc : c.2.length < 1000000) : ∀ d ∈ [a, b, c], d.2.length < 1000000000 := by
  intro d hd
  rcases List.mem_cons.1 hd with rfl | hd
  · omega
  · rcases List.mem_cons.1 hd with rfl | hd
    · omega
    · rw [List.mem_singleton.1 hd]; omega

end Go.Proofs.Rf
/- Rf, part H: from a law's contract to what a given statement asks of its walk. -/
namespace Go.Proofs.Rf
open Go Go.RowKit

def iNone : Nat → Option Value := fun _ => none
def cDead : Nat → Blk := fun _ => .dead

theorem owned_none {ι : Nat → Option Value} {b : Nat} : ¬ owned ι cDead b := by
  rintro ⟨k, hk⟩
  rw [bk_dead rfl] at hk
  cases hk

/-- A world of which nothing is the call's own. -/
theorem HRel.start (w : World) : HRel (fun _ => False) (fun b => b < w.heap.size) w iNone cDead w :=
  ⟨fun k => trivial, fun k k' b h1 _ => (by rw [bk_dead rfl] at h1; cases h1), Kept.refl _ _, fun b hb => (owned_none hb).elim, fun b hb => hb, fun b hb => (owned_none hb).elim, fun b hb => hb.elim⟩

/-- A law that is handed data and returns true. -/
theorem law_walk {P : Program} {f : Nat} {ps : List SV} {F : SV.denL ps → Option (Shape.den ⟨[(0, .d false .bool)], []⟩)} (h : CallOK P f (mkCall ps ⟨[(0, .d false .bool)], []⟩ F)) (w : World) {args : List AV} {vs : List Value} {x : SV.denL ps} {fz : List (Nat × Blk)}
    (ht : SV.takeL cDead [] ps args = some (x, fz)) (hF : F x = some ((true, ()), ())) (hrel : RelL w (fun b => b < w.heap.size) iNone args vs) : Calls P f vs.toArray w fun e w' => e = .returned (.bool true) ∧ Below w.heap.size w w' := by
  have hok : okb (fun _ => False) w iNone cDead = fun b => b < w.heap.size := by
    funext b
    exact propext ⟨fun q => q.1, fun q => ⟨q, owned_none, fun q => q⟩⟩
  have hco : mkCall ps ⟨[(0, .d false .bool)], []⟩ F args cDead 0 Eff some = some ⟨.d .bool true, [], []⟩ := by
    unfold mkCall
    rw [ht]
    simp only [hF]
    rfl
  refine (h.run _ _ w w iNone cDead 0 args vs _ (HRel.start w) (by rw [hok]; exact hrel) hco (fun _ _ _ => rfl)).mono ?_
  rintro e w' ⟨v, rfl, ι', H, E, hv, _⟩
  have hv := rel_bool.1 hv
  exact ⟨by rw [hv], H.fr.os, H.fr.tape, H.fr.output, H.fr.size, fun i hi => H.fr.block i hi hi⟩
end Go.Proofs.Rf
/- Rf, part I: what a given statement hands to a law: data of the law's types, read off the world; and how it reads behind the call. -/
namespace Go.Proofs.Rf
open Go Go.RowKit Go.ChangeShapes Go.WideShapes

/-- A kind of numbers holds a number. -/
def fitK (k : IntKind) (n : Int) : Prop := k.min ≤ n ∧ n ≤ k.max

/-- Numbers fit their kinds; what is long is not too long. -/
def Ty.fit : (t : Ty) → t.den → Prop
  | .int k, n => fitK k n
  | .str, s => s.length ≤ maxLen
  | .sl t, xs => xs.length ≤ maxLen ∧ ∀ x ∈ xs, t.fit x
  | .pr a b, x => a.fit x.1 ∧ b.fit x.2
  | _, _ => True

def tyFs (g : Nat → Option Ty) (c : Nat → Nat) : Nat → List Field → Option (List Ty)
  | _, [] => some []
  | o, f :: r => match g f.type with
    | some ty => if (Nat.beq f.offset o && Nat.beq (c f.type) ty.size) = true then (match tyFs g c (o + ty.size) r with
      | some ts => some (ty :: ts)
      | none => none) else none
    | none => none

/-- The shape of data of a type, where its parts lie one behind the other. -/
def goodTy (P : Program) : Nat → Nat → Option Ty
  | 0, _ => none
  | k + 1, t => match P.underlying t with
    | some (.int i) => some (.int i)
    | some .bool => some .bool
    | some .string => some .str
    | some (.slice e) => (match goodTy P k e with
      | some ty => if (Nat.blt 0 ty.size && Nat.beq (P.cellsOf e) ty.size) = true then some (.sl ty) else none
      | none => none)
    | some (.struct fields) => (match tyFs (goodTy P k) P.cellsOf 0 fields.toList with
      | some ts => if Nat.beq (P.cellsOf t) (prL ts).size = true then some (prL ts) else none
      | none => none)
    | _ => none

section
variable {H : Type} {enc : TypeId × Value → H} {P : Program} {w : World} {sp : Nat → Bool} {held : Bool}

theorem cells_get {a : Addr} {n : Nat} {cs : List Value} (h : w.cells? 0 a n = some cs) : cs.length = n ∧ ∀ j u, cs[j]? = some u → w.cell? (a.add j) = some u := by
  unfold World.cells? at h
  rw [if_pos (Nat.zero_le _)] at h
  have hl := mapM_some_length h
  rw [List.length_range] at hl
  refine ⟨hl, fun j u hu => ?_⟩
  have hj : j < n := by
    rw [← hl]
    exact (List.getElem?_eq_some_iff.1 hu).1
  have := mapM_some_get h j j (by simp [hj])
  rw [hu] at this
  exact this

theorem add_plain (g o j : Nat) : Addr.add ⟨g, o, none⟩ j = ⟨g, o + j, none⟩ := by
  unfold Addr.add
  split
  · rename_i h
    rw [h]; rfl
  · rfl

theorem add_two (a : Addr) {m r j : Nat} (h : m + r = j) : (a.add m).add r = a.add j := by
  subst h
  unfold Addr.add
  by_cases h1 : m = 0
  · subst h1
    simp
  · by_cases h2 : r = 0
    · subst h2
      simp [h1]
    · rw [if_neg h1, if_neg h2, if_neg (by omega), Nat.add_assoc]

theorem cell_place {a : Addr} {u : Value} (h : w.cell? a = some u) : a.spot = none ∧ a.block < w.heap.size := by
  refine ⟨World.cell?_spot h, ?_⟩
  unfold World.cell? at h
  split at h
  · rename_i h1
    exact (Array.getElem?_eq_some_iff.1 h1).1
  · cases h

/-- A row of equal parts. -/
theorem rowL {α : Type} {D : α → List Value → Prop} {Q : α → Prop} {n : Nat} (at_ : Nat → Option (List Value)) : ∀ (len k : Nat), (∀ i, i < len → ∃ cs x, at_ (k + i) = some cs ∧ cs.length = n ∧ D x cs ∧ Q x) →
    ∃ (xs : List α) (cs : List Value), xs.length = len ∧ RzL D xs cs ∧ cs.length = len * n ∧ (∀ x ∈ xs, Q x) ∧ ∀ i j c, i < len → at_ (k + i) = some c → j < n → cs[i * n + j]? = c[j]?
  | 0, k, _ => ⟨[], [], rfl, rfl, by simp, by simp, fun i j c hi => by omega⟩
  | len + 1, k, h => by
    obtain ⟨c0, x0, h0, hl0, hd0, hq0⟩ := h 0 (by omega)
    obtain ⟨xs, cs, hxl, hr, hcl, hq, hg⟩ := rowL at_ len (k + 1) (fun i hi => by
      obtain ⟨c, x, h1, h2⟩ := h (i + 1) (by omega)
      exact ⟨c, x, by rw [show k + 1 + i = k + (i + 1) by omega]; exact h1, h2⟩)
    refine ⟨x0 :: xs, c0 ++ cs, by simp [hxl], ⟨c0, cs, rfl, hd0, hr⟩, by rw [List.length_append, hl0, hcl, Nat.add_mul]; omega, ?_, ?_⟩
    · intro x hx
      rcases List.mem_cons.1 hx with rfl | hx
      · exact hq0
      · exact hq x hx
    · intro i j c hi hc hj
      cases i with
      | zero =>
        rw [Nat.add_zero] at h0 hc
        rw [h0] at hc
        cases hc
        rw [Nat.zero_mul, Nat.zero_add, List.getElem?_append_left (by omega)]
      | succ i =>
        rw [List.getElem?_append_right (by rw [hl0, Nat.add_mul]; omega), show (i + 1) * n + j - c0.length = i * n + j by rw [hl0, Nat.add_mul]; omega]
        exact hg i j c (by omega) (by rw [show k + 1 + i = k + (i + 1) by omega]; exact hc) hj

/-- The parts of a struct. -/
theorem fields_open {g : Nat → Option Ty} {c : Nat → Nat} {cs : List Value} {D : Nat → List Value → Prop} (ho : ∀ t ty us, g t = some ty → D t us → ∃ x : ty.den, Rz w (fun b => b < w.heap.size) ty x us ∧ ty.fit x) :
    ∀ (fs : List Field) (ts : List Ty) (o : Nat), tyFs g c o fs = some ts → (∀ f ∈ fs, D f.type ((cs.drop f.offset).take (c f.type))) → (cs.drop o).length = (prL ts).size →
      ∃ x : (prL ts).den, Rz w (fun b => b < w.heap.size) (prL ts) x (cs.drop o) ∧ (prL ts).fit x
  | [], ts, o, ht, _, hl => by
    cases ht
    exact ⟨(), List.eq_nil_of_length_eq_zero hl, trivial⟩
  | f :: r, ts, o, ht, hD, hl => by
    unfold tyFs at ht
    split at ht
    · rename_i ty hty
      split at ht
      · rename_i hc
        split at ht
        · rename_i ts' hts
          cases ht
          simp only [Bool.and_eq_true] at hc
          have ho' := Nat.eq_of_beq_eq_true hc.1
          have hs := Nat.eq_of_beq_eq_true hc.2
          have hd := hD f (by simp)
          rw [ho', hs] at hd
          obtain ⟨x, hx, hf⟩ := ho _ _ _ hty hd
          cases ts' with
          | nil =>
            have hl : _ = ty.size := hl
            rw [List.take_of_length_le (by omega)] at hx
            exact ⟨x, hx, hf⟩
          | cons b r' =>
            have hl : _ = ty.size + (prL (b :: r')).size := hl
            obtain ⟨y, hy, hg⟩ := fields_open ho r (b :: r') (o + ty.size) hts (fun f hf => hD f (by simp [hf])) (by rw [← List.drop_drop, List.length_drop]; omega)
            exact ⟨(x, y), ⟨_, _, by rw [← List.drop_drop, List.take_append_drop], hx, hy⟩, hf, hg⟩
        · cases ht
      · cases ht
    · cases ht

/-- Data of a type, read off its cells. -/
theorem open_cells : ∀ (k : Nat) (t : Nat) (ty : Ty), goodTy P k t = some ty → ∀ (fuel : Nat) (cs : List Value) (d : DataW H × List MemPlace), DataW.trod enc P w 0 sp held fuel t cs = some d →
    ∃ x : ty.den, Rz w (fun b => b < w.heap.size) ty x cs ∧ ty.fit x
  | 0, t, ty, hty, _, _, _, _ => by cases hty
  | k + 1, t, ty, hty, fuel, cs, d, h => by
    unfold goodTy at hty
    split at hty
    · rename_i i hu
      cases hty
      obtain ⟨n, rfl, _, hw⟩ := DataW.trod_int hu h
      simp only [Lit.wf, Bool.and_eq_true, decide_eq_true_eq] at hw
      exact ⟨n, rfl, hw⟩
    · rename_i hu
      cases hty
      obtain ⟨b, rfl, _⟩ := DataW.trod_bool hu h
      exact ⟨b, rfl, trivial⟩
    · rename_i hu
      cases hty
      obtain ⟨s, rfl, _, hs⟩ := DataW.trod_string hu h
      refine ⟨s.data.toList, ?_, ?_⟩
      · show _ = _
        cases s
        rfl
      · show _ ≤ _
        rw [Array.length_toList]
        exact hs
    · rename_i e hu
      split at hty
      · rename_i te hte
        split at hty
        · rename_i hc
          cases hty
          simp only [Bool.and_eq_true] at hc
          have hpos : 0 < te.size := Nat.le_of_ble_eq_true hc.1
          have hsz := Nat.eq_of_beq_eq_true hc.2
          rcases DataW.trod_slice hu h with ⟨rfl, _⟩ | ⟨a, len, cap, elems, rest, n, _, rfl, _, _, hlc, hcm, hel, hget, _, _⟩
          · exact ⟨[], ⟨none, 0, rfl, Nat.le_refl _, fun hp => by simp at hp⟩, by simp [Ty.fit]⟩
          · have hrow : ∀ i, i < len → ∃ cs x, (fun i => w.cells? 0 (a.add (i * te.size)) te.size) (0 + i) = some cs ∧ cs.length = te.size ∧ Rz w (fun b => b < w.heap.size) te x cs ∧ te.fit x := by
              intro i hi
              have hg := hget i hi
              rw [hsz, List.getElem?_eq_getElem (by omega)] at hg
              obtain ⟨c, h1, h2⟩ := Option.bind_eq_some_iff.1 hg
              obtain ⟨x, hx, hf⟩ := open_cells k e te hte n c _ h2
              exact ⟨c, x, by rw [Nat.zero_add]; exact h1, (cells_get h1).1, hx, hf⟩
            obtain ⟨xs, cs, hxl, hr, hcl, hq, hg⟩ := rowL (fun i => w.cells? 0 (a.add (i * te.size)) te.size) len 0 hrow
            refine ⟨xs, ⟨some a, cap, by rw [hxl], by rw [hxl]; exact hlc, fun hp => ?_⟩, by rw [hxl]; omega, hq⟩
            rw [hxl] at hp
            have hcell : ∀ j u, cs[j]? = some u → w.cell? (a.add j) = some u := by
              intro j u hu
              have hj : j < len * te.size := by rw [← hcl]; exact (List.getElem?_eq_some_iff.1 hu).1
              have hi : j / te.size < len := Nat.div_lt_of_lt_mul (by rw [Nat.mul_comm]; exact hj)
              obtain ⟨c, _, h1, hl, _⟩ := hrow (j / te.size) hi
              have hjm : j % te.size < te.size := Nat.mod_lt _ hpos
              have e1 : j / te.size * te.size + j % te.size = j := by rw [Nat.mul_comm]; exact Nat.div_add_mod _ _
              have := hg (j / te.size) (j % te.size) c hi h1 hjm
              rw [e1, hu] at this
              rw [Nat.zero_add] at h1
              have h3 := (cells_get h1).2 (j % te.size) u this.symm
              have e2 : (a.add (j / te.size * te.size)).add (j % te.size) = a.add j := add_two a e1
              rw [← e2]
              exact h3
            have h0 : ∃ u, cs[0]? = some u := by
              refine ⟨_, List.getElem?_eq_getElem ?_⟩
              rw [hcl]
              exact Nat.mul_pos hp hpos
            obtain ⟨u, hu⟩ := h0
            have hp := cell_place (hcell 0 u hu)
            obtain ⟨g, o, s⟩ := a
            obtain ⟨hp1, hp2⟩ := hp
            have hs : s = none := hp1
            subst hs
            exact ⟨g, o, cs, rfl, hp2, hr, fun j u hu => by rw [← add_plain]; exact hcell j u hu⟩
        · cases hty
      · cases hty
    · rename_i fields hu
      split at hty
      · rename_i ts hts
        split at hty
        · rename_i hc
          cases hty
          obtain ⟨xs, n, _, _, hlen, _, hf⟩ := DataW.trod_struct hu h
          rw [Nat.eq_of_beq_eq_true hc] at hlen
          have hf : ∀ f ∈ fields.toList, ∃ y, DataW.trod enc P w 0 sp held n f.type ((cs.drop f.offset).take (P.cellsOf f.type)) = some y := by
            intro f hm
            obtain ⟨i, hi, e⟩ := List.getElem_of_mem hm
            have hi' : i < fields.size := by simpa using hi
            have e' : fields[i]? = some f := by rw [Array.getElem?_eq_getElem hi']; simp only [← e, Array.getElem_toList]
            have := hf i f e'
            rw [this]
            exact ⟨xs[i]'(by omega), List.getElem?_eq_getElem _⟩
          have := fields_open (cs := cs) (D := fun t us => ∃ y, DataW.trod enc P w 0 sp held n t us = some y) (fun t ty us h1 ⟨y, h2⟩ => open_cells k t ty h1 n us y h2) fields.toList ts 0 hts hf (by rw [List.drop_zero]; exact hlen)
          rw [List.drop_zero] at this
          exact this
        · cases hty
      · cases hty
    · cases hty

/-! ### Arguments -/
def aggB (P : Program) (t : Nat) : Bool := match P.underlying t with
  | some (.struct _) => true
  | _ => false

theorem eqv_self : ∀ (t : Ty), t.eqv t = some ⟨rfl⟩
  | .int k => by
    have : ikEq k k = true := by cases k <;> rfl
    simp [Ty.eqv, this]
  | .bool => rfl
  | .str => rfl
  | .sl t => by
    unfold Ty.eqv
    rw [eqv_self t]
  | .pr a b => by
    unfold Ty.eqv
    rw [eqv_self a, eqv_self b]
  | .un => rfl
  | .fk f => by simp [Ty.eqv]

theorem pack_unpack (C : Nat → Blk) : ∀ (t : Ty) (x : t.den) (r : List AV), pack C t (unpack t x ++ r) = some (x, r, [])
  | .int k, x, r => by
    have : dat1 C (.int k) (.d (.int k) x) = some (x, []) := by
      show (if ikEq k k = true then some (x, []) else none) = _
      rw [if_pos (by cases k <;> rfl)]
    show (match dat1 C (.int k) (.d (.int k) x) with | some (x, f) => some (x, r, f) | none => none) = _
    rw [this]
  | .bool, x, r => rfl
  | .str, x, r => rfl
  | .sl t, x, r => by
    have : dat1 C (.sl t) (.d (.sl t) x) = some (x, []) := by
      simp only [dat1, eqv_self]
      rfl
    show (match dat1 C (.sl t) (.d (.sl t) x) with | some (x, f) => some (x, r, f) | none => none) = _
    rw [this]
  | .pr a b, x, r => by
    show pack C (.pr a b) ((unpack a x.1 ++ unpack b x.2) ++ r) = _
    rw [List.append_assoc]
    unfold pack
    rw [pack_unpack C a x.1]
    simp only
    rw [pack_unpack C b x.2]
    rfl
  | .un, x, r => rfl
  | .fk f, x, r => by
    have : dat1 C (.fk f) (.fn f []) = some ((), []) := by
      show (if Nat.beq f f = true then some ((), []) else none) = _
      rw [if_pos (Nat.beq_refl f)]
    show (match dat1 C (.fk f) (.fn f []) with | some (x, f) => some (x, r, f) | none => none) = _
    rw [this]

theorem dat_ag (C : Nat → Blk) (t : Ty) (x : t.den) : dat C t (.ag (unpack t x)) = some (x, []) := by
  have := pack_unpack C t x []
  rw [List.append_nil] at this
  show (match pack C t (unpack t x) with | some (x, [], f) => some (x, f) | _ => none) = _
  rw [this]

theorem take_ag (C : Nat → Blk) (t : Ty) (x : t.den) : SV.take C [] (.d true t) (.ag (unpack t x)) = some (x, []) := dat_ag C t x

theorem take_one (C : Nat → Blk) (t : Ty) (x : t.den) (h : unpack t x = [.d t x]) : SV.take C [] (.d false t) (.d t x) = some (x, []) := by
  have := pack_unpack C t x []
  rw [List.append_nil, h] at this
  show (match pack C t [.d t x] with | some (x, [], f) => some (x, f) | _ => none) = _
  rw [this]

theorem open_arg {r : Reach} {b0 k t : Nat} {ty : Ty} {v : Value} {d : DataW H} {ps : List MemPlace} (hg : goodTy P (k + 1) t = some ty) (hv : Value.okWide P w r b0 t v) (hd : DataW.Trod enc P w 0 sp held t v d ps) :
    ∃ (a : AV) (x : ty.den), RelV w (fun b => b < w.heap.size) iNone a v ∧ SV.take cDead [] (.d (aggB P t) ty) a = some (x, []) ∧ ty.fit x := by
  obtain ⟨fuel, hf⟩ := hd
  obtain ⟨x, hx, hfit⟩ := open_cells (k + 1) t ty hg fuel _ _ hf
  unfold goodTy at hg
  unfold aggB
  split at hg
  · rename_i i hu
    cases hg
    obtain ⟨n, rfl⟩ := okWide_int hu hv
    rw [hu]
    exact ⟨_, x, by simp only [RelV]; exact hx, take_one _ _ x rfl, hfit⟩
  · rename_i hu
    cases hg
    obtain ⟨n, rfl⟩ := okWide_bool hu hv
    rw [hu]
    exact ⟨_, x, by simp only [RelV]; exact hx, take_one _ _ x rfl, hfit⟩
  · rename_i hu
    cases hg
    obtain ⟨n, rfl⟩ := okWide_string hu hv
    rw [hu]
    exact ⟨_, x, by simp only [RelV]; exact hx, take_one _ _ x rfl, hfit⟩
  · rename_i e hu
    split at hg
    · split at hg
      · cases hg
        obtain ⟨a, l, c, rfl⟩ := okWide_slice hu hv
        rw [hu]
        exact ⟨_, x, by simp only [RelV]; exact hx, take_one _ _ x rfl, hfit⟩
      · cases hg
    · cases hg
  · rename_i fs hu
    split at hg
    · split at hg
      · cases hg
        obtain ⟨cs, rfl, _⟩ := okWide_struct hu hv
        rw [hu]
        have hx : Rz _ _ _ x cs.toList := hx
        exact ⟨_, x, by simp only [RelV]; exact ⟨cs.toList, by simp, RelL_unpack _ _ _ hx⟩, take_ag _ _ x, hfit⟩
      · cases hg
    · cases hg
  · cases hg

def argsOf (P : Program) : List Nat → Option (List SV)
  | [] => some []
  | t :: r => match goodTy P 16 t with
    | some ty => match argsOf P r with
      | some s => some (.d (aggB P t) ty :: s)
      | none => none
    | none => none

def fitL : (l : List SV) → SV.denL l → Prop
  | [], _ => True
  | .d _ t :: r, x => t.fit x.1 ∧ fitL r x.2
  | _ :: _, _ => False

/-- All arguments, as data. -/
theorem open_args {r : Reach} {b0 : Nat} : ∀ (ts : List TypeId) (vs : List Value) (ds : List (DataW H)) (ps : List MemPlace), DataW.TrodAll enc P w 0 sp held ts vs ds ps →
    (∀ (j : Nat) t v, ts[j]? = some t → vs[j]? = some v → Value.okWide P w r b0 t v) → ∀ (svs : List SV), argsOf P ts = some svs →
    ∃ (avs : List AV) (x : SV.denL svs), RelL w (fun b => b < w.heap.size) iNone avs vs ∧ SV.takeL cDead [] svs avs = some (x, []) ∧ fitL svs x
  | [], vs, ds, ps, h, _, svs, hs => by
    obtain ⟨rfl, _, _⟩ := trodAll_nil h
    cases hs
    exact ⟨[], (), RelL_nil.2 rfl, rfl, trivial⟩
  | t :: ts, vs, ds, ps, h, hv, svs, hs => by
    obtain ⟨v, vs', d, ds', p, q, rfl, rfl, rfl, hd, hr⟩ := trodAll_cons h
    unfold argsOf at hs
    split at hs
    · rename_i ty hty
      split at hs
      · rename_i s hs'
        cases hs
        obtain ⟨a, x, h1, h2, h3⟩ := open_arg hty (hv 0 t v rfl rfl) hd
        obtain ⟨avs, y, h4, h5, h6⟩ := open_args ts vs' ds' q hr (fun j t' v' h7 h8 => hv (j + 1) t' v' h7 h8) s hs'
        refine ⟨a :: avs, (x, y), RelL_cons.2 ⟨v, vs', rfl, h1, h4⟩, ?_, h3, h6⟩
        unfold SV.takeL
        rw [h2]
        simp only
        rw [h5]
        rfl
      · cases hs
    · cases hs

/-- They read behind the call as ahead of it. -/
theorem shut_args {W W' : World} (hl : laidOutB P = true) (hb : Below W.heap.size W W') : ∀ (ts : List TypeId) (vs : List Value) (ds : List (DataW H)) (ps : List MemPlace), (∀ t ∈ ts, P.readableRec t = true ∧ t < P.types.size) →
    DataW.TrodAll enc P W 0 (fun _ => true) true ts vs ds ps → DataW.TrodAll enc P W' 0 (fun b => decide (b < W.heap.size)) true ts vs ds ps
  | [], vs, ds, ps, _, h => by
    obtain ⟨rfl, rfl, rfl⟩ := trodAll_nil h
    exact trodAll_mk0
  | t :: ts, vs, ds, ps, ht, h => by
    obtain ⟨v, vs', d, ds', p, q, rfl, rfl, rfl, hd, hr⟩ := trodAll_cons h
    have lt : ∀ x ∈ p, x.block < W.heap.size := by
      obtain ⟨m, hm⟩ := hd
      exact DataW.trod_lt m _ _ _ hm
    exact trodAll_cons_mk (Below.trod hl (ht t (by simp)).1 (ht t (by simp)).2 hd hb lt) (shut_args hl hb ts vs' ds' q (fun t' h' => ht t' (by simp [h'])) hr)
end
end Go.Proofs.Rf
/- Limbs that are handed in. -/
namespace Go.Proofs.Rf
open Go Go.RowKit
theorem Wf_of_fit {a : List Int} (h : (Ty.sl (.int .u32)).fit a) : Wf a := fun x hx => by
  have := h.2 x hx
  have h0 : IntKind.u32.min = 0 := by decide
  have h1 : IntKind.u32.max = 4294967295 := by decide
  have h2 : IntKind.u32.min ≤ x ∧ x ≤ IntKind.u32.max := this
  rw [h0, h1] at h2
  omega
end Go.Proofs.Rf
/- The law of Powers returns true. -/
namespace Go.Proofs.Rf
open Go Go.RowKit

theorem fmod_nonneg {a : Int} {m : Nat} (hm : m ≠ 0) : ∃ A : Nat, a.fmod (m : Int) = (A : Int) ∧ A < m := by
  have h := (Int.fdiv_fmod_unique (a := a) (r := a.fmod (m : Int)) (q := a.fdiv (m : Int)) (show (0 : Int) < m by omega)).1 ⟨rfl, rfl⟩
  exact ⟨(a.fmod (m : Int)).toNat, by omega, by omega⟩

section
variable {a : Int} {n m A : Nat} (ha : Sz 200 a) (hn : (lim n).length ≤ 8) (hm : m ≠ 0) (hml : (lim m).length ≤ 200) (hA : a.fmod (m : Int) = (A : Int)) (hAm : A < m)
include ha hn hm hml hA hAm
theorem L31_spec : L31 (zl a, zl (n : Int), zl (m : Int), ()) = some ((zl ((A ^ n % m : Nat) : Int), 0, ()), ()) := by
  have hsn : Sz 200 (n : Int) := Sz_nat.2 (by omega)
  have hsm : Sz 200 (m : Int) := Sz_nat.2 hml
  have hs1 : Sz 200 (1 : Int) := by unfold Sz; rw [show (1 : Int).natAbs = 1 from rfl, lim_1]; decide
  have hm' : (m : Int) ≠ 0 := by omega
  have he : ers [zl a, zl (n : Int), zl (m : Int)] = 0 := by
    have e1 : err (zl a).1 (zl a).2 = 0 := err_zl ha
    have e2 : err (zl (n : Int)).1 (zl (n : Int)).2 = 0 := err_zl hsn
    have e3 : err (zl (m : Int)).1 (zl (m : Int)).2 = 0 := err_zl hsm
    simp only [ers, e1, e2, e3, if_true]
  have la := zl_len ha
  have ln := zl_len hsn
  have lm := zl_len hsm
  have hl1 : (lim 1).length = 1 := by rw [lim_1]; rfl
  have hb := bl_len n
  show F31 L52 L53 L58 L61 L63 L69 L85 L90 Lg31_7 (((zl a).1, (zl a).2), ((zl (n : Int)).1, (zl (n : Int)).2), ((zl (m : Int)).1, (zl (m : Int)).2), ()) = _
  rw [F31_eq]
  simp only [pe]
  rw [L85_spec (by simp) (three_small (by omega) (by omega) (by omega)), he]
  have q1 : (zl (n : Int)).1 = false := by rw [zl_nat]
  have q2 : ¬ (zl (m : Int)).1 = true := by rw [zl_nat]; exact Bool.false_ne_true
  have q3 : (((zl (m : Int)).2.length : Int) == 0) = false := by rw [zl_len0]; exact decide_eq_false hm
  have q4 : decide (((zl (n : Int)).2.length : Int) > 8) = false := by rw [zl_nat]; exact decide_eq_false (by simp only; omega)
  rw [q1, q3, q4, L53_spec, L53_spec, L53_spec]
  simp only [Option.bind_some, Bool.false_eq_true, if_false]
  rw [if_neg q2, L53_spec]
  simp only [Option.bind_some, Bool.false_eq_true, if_false]
  rw [L52_four]
  simp only [Option.bind_some, fst2, if_true]
  rw [if_neg (by decide), L90_spec hm' (ha.mono (by decide)) (hsm.mono (by decide)), L58_spec (by decide) (by decide)]
  simp only [Option.bind_some]
  rw [show (1 : Int).toNat = 1 from rfl, L61_gen (by omega)]
  simp only [Option.bind_some]
  have g1 : sgn false 1 = (1 : Int) := rfl
  rw [g1]
  have e1 : (1 : Int).fmod (m : Int) = ((1 % m : Nat) : Int) := fmod_nat 1 m
  have e63 : L63 (zl (n : Int), ()) = some ((lim n, ()), ()) := by rw [zl_nat]; exact L63_at false (lim n)
  rw [L90_spec hm' (hs1.mono (by decide)) (hsm.mono (by decide)), e1, hA, e63]
  simp only [Option.bind_some]
  rw [L69_spec (by omega)]
  simp only [Option.bind_some]
  have e2 : IntKind.i64.wrap ((bl n : Int) - 1) = (bl n : Int) - 1 := wi (by omega) (by omega)
  rw [e2]
  have hL := Lg31_spec hm hml hAm (show (lim n).length ≤ 200 by omega) (c := (false, [], ()))
  have e3 : (zl (n : Int)).2 = lim n := by rw [zl_nat]
  rw [e3, hL]
  rfl
end

section
variable {a b : Bool × List Int} (wa : Wf a.2) (wb : Wf b.2) (ha : a.2.length ≤ 9 ∨ a.2.length = 201) (hb : b.2.length ≤ 9 ∨ b.2.length = 201)
include wa wb ha hb
end
end Go.Proofs.Rf
/- The functions, evaluated. -/
namespace Go.Proofs.Rf
open Go Go.RowKit
theorem F8_eq (F9 : (SV.denL ps9) → Option (rs9).den) (F11 : (SV.denL ps11) → Option (rs11).den) (F12 : (SV.denL ps12) → Option (rs12).den) (F13 : (SV.denL ps13) → Option (rs13).den) (F14 : (SV.denL ps14) → Option (rs14).den) (F16 : (SV.denL ps16) → Option (rs16).den) (F17 : (SV.denL ps17) → Option (rs17).den) (F23 : (SV.denL ps23) → Option (rs23).den) (F33 : (SV.denL ps33) → Option (rs33).den) (F37 : (SV.denL ps37) → Option (rs37).den) (F39 : (SV.denL ps39) → Option (rs39).den) (F41 : (SV.denL ps41) → Option (rs41).den) (F42 : (SV.denL ps42) → Option (rs42).den) (F43 : (SV.denL ps43) → Option (rs43).den) (F44 : (SV.denL ps44) → Option (rs44).den) (a0_0 : Bool) (a0_1 : List Int) (b1_0 : Bool) (b1_1 : List Int) (c2_0 : Bool) (c2_1 : List Int) : F8 F9 F11 F12 F13 F14 F16 F17 F23 F33 F37 F39 F41 F42 F43 F44 ((a0_0, a0_1), (b1_0, b1_1), (c2_0, c2_1), ()) = (
  (F14 (9, [(a0_0, a0_1), (b1_0, b1_1), (c2_0, c2_1)], ())).bind fun y =>
    if (!y.1.1) = true then (F9 ()).bind fun y => some ((y.1.1, ()), ())
    else
      (F23 ((a0_0, a0_1), ())).bind fun y =>
        if (!y.1.1 == 0) = true then (F9 ()).bind fun y => some ((y.1.1, ()), ())
        else
          (F23 ((b1_0, b1_1), ())).bind fun y =>
            if (!y.1.1 == 0) = true then (F9 ()).bind fun y => some ((y.1.1, ()), ())
            else
              (F23 ((c2_0, c2_1), ())).bind fun y =>
                if (!y.1.1 == 0) = true then (F9 ()).bind fun y => some ((y.1.1, ()), ())
                else
                  if decide ((↑c2_1.length : Int) > 0) = true then
                    if 0 < (↑c2_1.length : Int) then
                      (F17 ((a0_0, a0_1), ())).bind fun y =>
                        (F16
                              ((y.1.1.1, y.1.1.2), IntKind.i64.wrap (2 + IntKind.i64.wrap (Int.tmod (c2_1.getD 0 0) 35)),
                                ())).bind
                          fun y =>
                          (F11 (y.1.1, IntKind.i64.wrap (2 + IntKind.i64.wrap (Int.tmod (c2_1.getD 0 0) 35)), ())).bind
                            fun y_1 =>
                            if (!IntKind.i64.wrap (y.1.2.1 + y_1.1.2.1) == 0) = true then some ((false, ()), ())
                            else
                              (F13 ((y_1.1.1.1, y_1.1.1.2), ())).bind fun y =>
                                (F12 ((y.1.1.1, y.1.1.2), (a0_0, a0_1), ())).bind fun y =>
                                  if (!y.1.1) = true then some ((false, ()), ())
                                  else
                                    (F42 ((a0_0, a0_1), (b1_0, b1_1), (c2_0, c2_1), ())).bind fun y =>
                                      if (!y.1.1) = true then some ((false, ()), ())
                                      else
                                        if decide ((↑b1_1.length : Int) > 0) = true then
                                          (F17 ((a0_0, a0_1), ())).bind fun y =>
                                            (F17 ((b1_0, b1_1), ())).bind fun y_2 =>
                                              (F39 ((y.1.1.1, y.1.1.2), (y_2.1.1.1, y_2.1.1.2), ())).bind fun y =>
                                                (F17 ((b1_0, b1_1), ())).bind fun y_3 =>
                                                  (F37 ((y.1.1.1, y.1.1.2), (y_3.1.1.1, y_3.1.1.2), ())).bind fun y_4 =>
                                                    (F33 ((y_4.1.1.1, y_4.1.1.2), (y.1.2.1.1, y.1.2.1.2), ())).bind
                                                      fun y_5 =>
                                                      if
                                                          (!IntKind.i64.wrap
                                                                  (IntKind.i64.wrap (y.1.2.2.1 + y_4.1.2.1) +
                                                                    y_5.1.2.1) ==
                                                                0) =
                                                            true then
                                                        some ((false, ()), ())
                                                      else
                                                        (F13 ((y_5.1.1.1, y_5.1.1.2), ())).bind fun y_6 =>
                                                          (F12 ((y_6.1.1.1, y_6.1.1.2), (a0_0, a0_1), ())).bind fun y_7 =>
                                                            if (!y_7.1.1) = true then some ((false, ()), ())
                                                            else
                                                              if decide ((↑(List.length y.1.2.1.2) : Int) > 0) = true then
                                                                if (!y.1.2.1.1 == b1_0) = true then some ((false, ()), ())
                                                                else
                                                                  (F41 ((false, y.1.2.1.2), (false, b1_1), ())).bind
                                                                    fun y =>
                                                                    if (!y.1.2.1 == 0) = true then some ((false, ()), ())
                                                                    else
                                                                      if decide (y.1.1 ≥ 0) = true then
                                                                        some ((false, ()), ())
                                                                      else
                                                                        (F43 ((a0_0, a0_1), (b1_0, b1_1), ())).bind
                                                                          fun y =>
                                                                          if y.1.1 = true then
                                                                            (F44
                                                                                  ((a0_0, a0_1), (b1_0, b1_1),
                                                                                    (c2_0, c2_1), ())).bind
                                                                              fun y =>
                                                                              if y.1.1 = true then
                                                                                (F9 ()).bind fun y =>
                                                                                  some ((y.1.1, ()), ())
                                                                              else some ((false, ()), ())
                                                                          else some ((false, ()), ())
                                                              else
                                                                (F41 ((false, y.1.2.1.2), (false, b1_1), ())).bind
                                                                  fun y =>
                                                                  if (!y.1.2.1 == 0) = true then some ((false, ()), ())
                                                                  else
                                                                    if decide (y.1.1 ≥ 0) = true then
                                                                      some ((false, ()), ())
                                                                    else
                                                                      (F43 ((a0_0, a0_1), (b1_0, b1_1), ())).bind fun y =>
                                                                        if y.1.1 = true then
                                                                          (F44
                                                                                ((a0_0, a0_1), (b1_0, b1_1), (c2_0, c2_1),
                                                                                  ())).bind
                                                                            fun y =>
                                                                            if y.1.1 = true then
                                                                              (F9 ()).bind fun y => some ((y.1.1, ()), ())
                                                                            else some ((false, ()), ())
                                                                        else some ((false, ()), ())
                                        else
                                          (F43 ((a0_0, a0_1), (b1_0, b1_1), ())).bind fun y =>
                                            if y.1.1 = true then
                                              (F44 ((a0_0, a0_1), (b1_0, b1_1), (c2_0, c2_1), ())).bind fun y =>
                                                if y.1.1 = true then (F9 ()).bind fun y => some ((y.1.1, ()), ())
                                                else some ((false, ()), ())
                                            else some ((false, ()), ())
                    else none
                  else
                    (F17 ((a0_0, a0_1), ())).bind fun y =>
                      (F16 ((y.1.1.1, y.1.1.2), 2, ())).bind fun y =>
                        (F11 (y.1.1, 2, ())).bind fun y_1 =>
                          if (!IntKind.i64.wrap (y.1.2.1 + y_1.1.2.1) == 0) = true then some ((false, ()), ())
                          else
                            (F13 ((y_1.1.1.1, y_1.1.1.2), ())).bind fun y =>
                              (F12 ((y.1.1.1, y.1.1.2), (a0_0, a0_1), ())).bind fun y =>
                                if (!y.1.1) = true then some ((false, ()), ())
                                else
                                  (F42 ((a0_0, a0_1), (b1_0, b1_1), (c2_0, c2_1), ())).bind fun y =>
                                    if (!y.1.1) = true then some ((false, ()), ())
                                    else
                                      if decide ((↑b1_1.length : Int) > 0) = true then
                                        (F17 ((a0_0, a0_1), ())).bind fun y =>
                                          (F17 ((b1_0, b1_1), ())).bind fun y_2 =>
                                            (F39 ((y.1.1.1, y.1.1.2), (y_2.1.1.1, y_2.1.1.2), ())).bind fun y =>
                                              (F17 ((b1_0, b1_1), ())).bind fun y_3 =>
                                                (F37 ((y.1.1.1, y.1.1.2), (y_3.1.1.1, y_3.1.1.2), ())).bind fun y_4 =>
                                                  (F33 ((y_4.1.1.1, y_4.1.1.2), (y.1.2.1.1, y.1.2.1.2), ())).bind
                                                    fun y_5 =>
                                                    if
                                                        (!IntKind.i64.wrap
                                                                (IntKind.i64.wrap (y.1.2.2.1 + y_4.1.2.1) + y_5.1.2.1) ==
                                                              0) =
                                                          true then
                                                      some ((false, ()), ())
                                                    else
                                                      (F13 ((y_5.1.1.1, y_5.1.1.2), ())).bind fun y_6 =>
                                                        (F12 ((y_6.1.1.1, y_6.1.1.2), (a0_0, a0_1), ())).bind fun y_7 =>
                                                          if (!y_7.1.1) = true then some ((false, ()), ())
                                                          else
                                                            if decide ((↑(List.length y.1.2.1.2) : Int) > 0) = true then
                                                              if (!y.1.2.1.1 == b1_0) = true then some ((false, ()), ())
                                                              else
                                                                (F41 ((false, y.1.2.1.2), (false, b1_1), ())).bind
                                                                  fun y =>
                                                                  if (!y.1.2.1 == 0) = true then some ((false, ()), ())
                                                                  else
                                                                    if decide (y.1.1 ≥ 0) = true then
                                                                      some ((false, ()), ())
                                                                    else
                                                                      (F43 ((a0_0, a0_1), (b1_0, b1_1), ())).bind fun y =>
                                                                        if y.1.1 = true then
                                                                          (F44
                                                                                ((a0_0, a0_1), (b1_0, b1_1), (c2_0, c2_1),
                                                                                  ())).bind
                                                                            fun y =>
                                                                            if y.1.1 = true then
                                                                              (F9 ()).bind fun y => some ((y.1.1, ()), ())
                                                                            else some ((false, ()), ())
                                                                        else some ((false, ()), ())
                                                            else
                                                              (F41 ((false, y.1.2.1.2), (false, b1_1), ())).bind fun y =>
                                                                if (!y.1.2.1 == 0) = true then some ((false, ()), ())
                                                                else
                                                                  if decide (y.1.1 ≥ 0) = true then some ((false, ()), ())
                                                                  else
                                                                    (F43 ((a0_0, a0_1), (b1_0, b1_1), ())).bind fun y =>
                                                                      if y.1.1 = true then
                                                                        (F44
                                                                              ((a0_0, a0_1), (b1_0, b1_1), (c2_0, c2_1),
                                                                                ())).bind
                                                                          fun y =>
                                                                          if y.1.1 = true then
                                                                            (F9 ()).bind fun y => some ((y.1.1, ()), ())
                                                                          else some ((false, ()), ())
                                                                      else some ((false, ()), ())
                                      else
                                        (F43 ((a0_0, a0_1), (b1_0, b1_1), ())).bind fun y =>
                                          if y.1.1 = true then
                                            (F44 ((a0_0, a0_1), (b1_0, b1_1), (c2_0, c2_1), ())).bind fun y =>
                                              if y.1.1 = true then (F9 ()).bind fun y => some ((y.1.1, ()), ())
                                              else some ((false, ()), ())
                                          else some ((false, ()), ()) : Option rs8.den) := by kernel_rfl
end Go.Proofs.Rf
/- A numeral is parsed to its number. -/
namespace Go.Proofs.Rf
open Go Go.RowKit

def toB (l : List Int) : List UInt8 := l.map fun n => UInt8.ofNat n.toNat

theorem toB_chr {d : Int} (h0 : 0 ≤ d) (h1 : d < 36) : ((UInt8.ofNat (chr d).toNat).toNat : Int) = chr d := by
  have h2 : 0 ≤ chr d ∧ chr d < 256 := by unfold chr; split <;> omega
  rw [UInt8.toNat_ofNat']
  omega

theorem dg_chr {d : Int} (h0 : 0 ≤ d) (h1 : d < 36) : dg (chr d) = d := by
  unfold chr
  split
  · unfold dg; rw [if_pos (by omega)]; omega
  · unfold dg; rw [if_neg (by omega), if_pos (by omega)]; omega

theorem nums_append (base : Int) : ∀ (l r : List UInt8) (n : Nat), nums base (l ++ r) n = (nums base l n).bind fun m => nums base r m
  | [], _, _ => rfl
  | c :: l, r, n => by
    simp only [List.cons_append, nums]
    split
    · rfl
    · exact nums_append base l r _

/-- The digits of a number, the greatest one first, as bytes. -/
def big (b n : Nat) : List UInt8 := toB ((digs b n).map chr).reverse

theorem big_zero (b : Nat) : big b 0 = [] := by unfold big; rw [digs_zero]; rfl
theorem big_pos {b n : Nat} (hn : n ≠ 0) (hb : 2 ≤ b) : big b n = big b (n / b) ++ [UInt8.ofNat (chr ((n % b : Nat) : Int)).toNat] := by
  unfold big toB
  rw [digs_pos hn hb]
  simp

theorem nums_big {b : Nat} (hb : 2 ≤ b) (hb1 : b ≤ 36) : ∀ (n : Nat), (lim n).length ≤ 200 → nums (b : Int) (big b n) 0 = some n := by
  intro n
  induction n using Nat.strongRecOn with
  | _ n ih =>
    intro hl
    by_cases h : n = 0
    · subst h; rw [big_zero]; rfl
    · have hm := Nat.mod_lt n (show b > 0 by omega)
      rw [big_pos h hb, nums_append, ih _ (Nat.div_lt_self (by omega) (by omega)) (Nat.le_trans (lim_length_mono (Nat.div_le_self n b)) hl)]
      simp only [Option.bind_some, nums]
      rw [toB_chr (by omega) (by omega), dg_chr (by omega) (by omega)]
      have e : (((n / b : Nat) : Int) * (b : Int) + ((n % b : Nat) : Int)).toNat = n := by
        have := Nat.div_add_mod n b
        rw [← Int.natCast_mul, ← Int.natCast_add, Int.toNat_natCast, Nat.mul_comm]
        exact this
      rw [e, if_neg (by omega)]

theorem allD_big {b : Nat} (hb : 2 ≤ b) (hb1 : b ≤ 36) : ∀ (n : Nat), allD (b : Int) (big b n) = true := by
  intro n
  induction n using Nat.strongRecOn with
  | _ n ih =>
    by_cases h : n = 0
    · subst h; rw [big_zero]; rfl
    · have hm := Nat.mod_lt n (show b > 0 by omega)
      have h1 := ih _ (Nat.div_lt_self (n := n) (k := b) (by omega) (by omega))
      unfold allD at h1 ⊢
      rw [big_pos h hb, List.all_append, h1]
      simp only [List.all_cons, List.all_nil, Bool.and_true, Bool.true_and, decide_eq_true_eq]
      rw [toB_chr (by omega) (by omega), dg_chr (by omega) (by omega)]
      omega

/-- Its first byte is a digit, and not zero. -/
theorem big_head {b : Nat} (hb : 2 ≤ b) (hb1 : b ≤ 36) : ∀ (n : Nat), n ≠ 0 → ∃ c r, big b n = c :: r ∧ c ≠ 45 ∧ c ≠ 48 := by
  intro n
  induction n using Nat.strongRecOn with
  | _ n ih =>
    intro h
    have hm := Nat.mod_lt n (show b > 0 by omega)
    by_cases h2 : n / b = 0
    · refine ⟨_, [], by rw [big_pos h hb, h2, big_zero]; rfl, ?_⟩
      have h3 : n % b ≠ 0 := by
        intro q
        have := Nat.div_add_mod n b
        rw [h2, q] at this
        omega
      have h4 := toB_chr (d := ((n % b : Nat) : Int)) (by omega) (by omega)
      have h5 : chr ((n % b : Nat) : Int) ≠ 45 ∧ chr ((n % b : Nat) : Int) ≠ 48 := by unfold chr; split <;> omega
      rw [← h4] at h5
      constructor
      · intro q
        rw [q] at h5
        exact h5.1 rfl
      · intro q
        rw [q] at h5
        exact h5.2 rfl
    · obtain ⟨c, r, h3, h4⟩ := ih _ (Nat.div_lt_self (by omega) (by omega)) h2
      exact ⟨c, r ++ [UInt8.ofNat (chr ((n % b : Nat) : Int)).toNat], by rw [big_pos h hb, h3]; rfl, h4⟩

theorem big_len {b n : Nat} (hb : 2 ≤ b) (hl : (lim n).length ≤ 200) : (big b n).length ≤ 6400 := by
  have := digs_length hb (32 * 200) n (by
    have := lim_length_iff.1 hl
    rw [show (4294967296 : Nat) = 2 ^ 32 from rfl, ← Nat.pow_mul] at this
    exact this)
  unfold big toB
  simpa using this

theorem text_big {b n : Nat} (hn : n ≠ 0) (neg : Bool) : textOf neg b n = if neg = true then 45 :: big b n else big b n := by
  unfold textOf big toB
  rw [if_neg hn]
  cases neg
  · simp
  · simp only [if_true, List.reverse_append, List.reverse_cons, List.reverse_nil, List.nil_append, List.singleton_append, List.map_cons]
    rfl

theorem parsed {b : Nat} (hb : 2 ≤ b) (hb1 : b ≤ 36) {z : Int} (hz : Sz 200 z) : outcome (textOf (decide (z < 0)) b z.natAbs) (b : Int) = (zl z, 0, ()) := by
  unfold outcome
  rw [if_neg (by omega)]
  by_cases h0 : z.natAbs = 0
  · have : z = 0 := by omega
    subst this
    rw [show textOf (decide ((0 : Int) < 0)) b (0 : Int).natAbs = [48] from rfl, if_neg (by decide)]
    simp only
    rw [if_neg (by decide), if_neg (by decide)]
    have := nums_big hb hb1 0 (by rw [lim_zero]; simp)
    unfold fin
    have e1 : allD (b : Int) [48] = true := by
      unfold allD
      simp only [List.all_cons, List.all_nil, Bool.and_true, decide_eq_true_eq]
      rw [show (((48 : UInt8).toNat : Nat) : Int) = 48 from rfl, show dg 48 = 0 from rfl]
      omega
    have e2 : nums (b : Int) [48] 0 = some 0 := by
      simp only [nums]
      rw [show (((48 : UInt8).toNat : Nat) : Int) = 48 from rfl, show dg 48 = 0 from rfl]
      have e3 : (((0 : Nat) : Int) * (b : Int) + 0).toNat = 0 := by simp
      rw [e3, lim_zero]
      simp
    rw [if_pos e1, e2, zl_zero]
    simp only [lim_zero]
    rfl
  · rw [text_big h0]
    have hl := big_len (n := z.natAbs) hb hz
    obtain ⟨c, r, h3, h4, h5⟩ := big_head hb hb1 _ h0
    have hA := allD_big hb hb1 z.natAbs
    have hN := nums_big hb hb1 z.natAbs hz
    have hp : 0 < (lim z.natAbs).length := by
      rcases Nat.eq_zero_or_pos (lim z.natAbs).length with q | q
      · exact (h0 (lim_eq_nil.1 (List.eq_nil_of_length_eq_zero q))).elim
      · exact q
    by_cases hneg : z < 0
    · simp only [hneg, decide_true, if_true]
      rw [if_neg (by simp; omega)]
      rw [h3] at hA hN ⊢
      simp only [h5, if_false]
      unfold fin
      rw [if_pos hA, hN]
      simp only [hp, decide_true, Bool.and_self]
      unfold zl
      rw [decide_eq_true hneg]
    · simp only [hneg, decide_false, Bool.false_eq_true, if_false]
      rw [if_neg (by omega)]
      rw [h3] at hA hN ⊢
      simp only [h4, h5, false_and, if_false]
      unfold fin
      rw [if_pos hA, hN]
      simp only [Bool.false_and]
      unfold zl
      rw [decide_eq_false hneg]
end Go.Proofs.Rf
/- The law of Laws returns true: its parts. -/
namespace Go.Proofs.Rf
open Go Go.RowKit

theorem add_z {j k : Nat} {x y : Int} (hx : Sz j x) (hy : Sz k y) (h : max j k + 1 ≤ 200) : L33 (zl x, zl y, ()) = some ((zl (x + y), 0, ()), ()) := by
  have hx' : Sz 200 x := hx.mono (by omega)
  have hy' : Sz 200 y := hy.mono (by omega)
  rw [L33_spec hx' hy' (ers_zl hx' hy'), res_ok ((hx.add hy).mono (by omega))]

theorem sub_z {j k : Nat} {x y : Int} (hx : Sz j x) (hy : Sz k y) (h : max j k + 1 ≤ 200) : L35 (zl x, zl y, ()) = some ((zl (x - y), 0, ()), ()) := by
  have hx' : Sz 200 x := hx.mono (by omega)
  have hy' : Sz 200 y := hy.mono (by omega)
  have hn := hx.add hy.neg
  rw [← Int.sub_eq_add_neg] at hn
  rw [L35_spec hx' hy' (ers_zl hx' hy'), res_ok (hn.mono (by omega))]

theorem mul_z {j k : Nat} {x y : Int} (hx : Sz j x) (hy : Sz k y) (h : j + k ≤ 200) : L37 (zl x, zl y, ()) = some ((zl (x * y), 0, ()), ()) := by
  have hx' : Sz 200 x := hx.mono (by omega)
  have hy' : Sz 200 y := hy.mono (by omega)
  rw [L37_spec hx' hy' (ers_zl hx' hy'), res_ok ((hx.mul hy).mono (by omega))]

theorem div_z {j k : Nat} {x y : Int} (hx : Sz j x) (hy : Sz k y) (hj : j ≤ 200) (hk : k ≤ 200) (h0 : y ≠ 0) : L39 (zl x, zl y, ()) = some ((zl (x.fdiv y), zl (x.fmod y), 0, ()), ()) := by
  have hx' : Sz 200 x := hx.mono hj
  have hy' : Sz 200 y := hy.mono hk
  exact L39_spec hx' hy' (ers_zl hx' hy') h0

theorem own_z {k : Nat} {x : Int} (hx : Sz k x) (hk : k ≤ 100000) : L17 (zl x, ()) = some ((zl x, ()), ()) := L17_spec (by have := hx; unfold Sz at this; omega)
theorem told_z (x : Int) : L13 (zl x, ()) = some ((zl x, ()), ()) := by rw [L13_id]
theorem same_z {k : Nat} {x : Int} (hx : Sz k x) (hk : k ≤ 100000) : L12 (zl x, zl x, ()) = some ((true, ()), ()) := L12_same (by have := hx; unfold Sz at this; omega)

theorem Sz.sub {j k : Nat} {x y : Int} (hx : Sz j x) (hy : Sz k y) : Sz (max j k + 1) (x - y) := by
  have hn := hx.add hy.neg
  rw [← Int.sub_eq_add_neg] at hn
  exact hn

theorem F42_z {a b c : Int} (ha : Sz 9 a) (hb : Sz 9 b) (hc : Sz 9 c) : L42 (zl a, zl b, zl c, ()) = some ((true, ()), ()) := by
  have td := told_z
  show F42 L12 L13 L17 L33 L35 L37 (((zl a).1, (zl a).2), ((zl b).1, (zl b).2), ((zl c).1, (zl c).2), ()) = _
  rw [F42_eq]
  have s1 := ha.add hb
  have p1 := ha.mul hb
  have bc := hb.mul hc
  have ac := ha.mul hc
  have e2 : L33 (zl b, zl a, ()) = some ((zl (a + b), 0, ()), ()) := by rw [add_z hb ha (by decide), Int.add_comm]
  have e4 : L37 (zl b, zl a, ()) = some ((zl (a * b), 0, ()), ()) := by rw [mul_z hb ha (by decide), Int.mul_comm]
  have e5 : L37 (zl (a + b), zl c, ()) = some ((zl (a * c + b * c), 0, ()), ()) := by rw [mul_z s1 hc (by decide), Int.add_mul]
  have e10 : L37 (zl a, zl (b * c), ()) = some ((zl (a * b * c), 0, ()), ()) := by rw [mul_z ha bc (by decide), Int.mul_assoc]
  have e11 : L35 (zl (a + b), zl b, ()) = some ((zl a, 0, ()), ()) := by rw [sub_z s1 hb (by decide), Int.add_sub_cancel]
  simp only [pe, own_z ha (by decide), own_z hb (by decide), own_z hc (by decide), add_z ha hb (by decide), e2, mul_z ha hb (by decide), e4, e5, mul_z ha hc (by decide), mul_z hb hc (by decide), add_z ac bc (by decide), mul_z p1 hc (by decide), e10, e11, td, same_z ha (by decide), same_z s1 (by decide), same_z p1 (by decide), same_z (ac.add bc) (by decide), same_z (p1.mul hc) (by decide), Option.bind_some]
  rw [if_pos (by decide)]
  simp only [if_true]

theorem zl_natlen {n : Nat} : ((zl (n : Int)).2.length : Int) = (lim n).length := by rw [zl_2, Int.natAbs_natCast]

theorem F43_z {a b : Int} (ha : Sz 9 a) (hb : Sz 9 b) : L43 (zl a, zl b, ()) = some ((true, ()), ()) := by
  have td := told_z
  have hN := gcd_N (a := a) (b := b) (ha.mono (by decide)) (hb.mono (by decide))
  obtain ⟨k1, ⟨u, k2⟩, ⟨v, k3⟩, h1, h2, h3⟩ := eu_spec a.natAbs b.natAbs b.natAbs a.natAbs 1 0 0 1 (EOK.start _ _)
  have g29 := L29_spec (a := a) (b := b) (ha.mono (by decide)) (hb.mono (by decide))
  unfold gcdOf at g29
  generalize (eu a.natAbs b.natAbs 1 0 0 1).1 = g at *
  generalize (eu a.natAbs b.natAbs 1 0 0 1).2.1 = x at *
  generalize (eu a.natAbs b.natAbs 1 0 0 1).2.2 = y at *
  have sg : Sz 100 (g : Int) := Sz_of_le 100 hN (by rw [Int.natAbs_natCast]; exact h1)
  have sx : Sz 100 (if a < 0 then -x else x) := by
    have := Sz_of_le 100 hN h2
    split
    · exact this.neg
    · exact this
  have sy : Sz 100 (if b < 0 then -y else y) := by
    have := Sz_of_le 100 hN h3
    split
    · exact this.neg
    · exact this
  have kx : (if a < 0 then -x else x) * a = x * a.natAbs := by
    split
    · rw [show ((a.natAbs : Nat) : Int) = -a by omega]; grind
    · rw [show ((a.natAbs : Nat) : Int) = a by omega]
  have ky : (if b < 0 then -y else y) * b = y * b.natAbs := by
    split
    · rw [show ((b.natAbs : Nat) : Int) = -b by omega]; grind
    · rw [show ((b.natAbs : Nat) : Int) = b by omega]
  generalize (if a < 0 then -x else x) = f0 at *
  generalize (if b < 0 then -y else y) = f1 at *
  have e3 : L33 (zl (f0 * a), zl (f1 * b), ()) = some ((zl (g : Int), 0, ()), ()) := by rw [add_z (sx.mul ha) (sy.mul hb) (by decide), kx, ky, k1]
  show F43 L12 L13 L17 L29 L33 L37 L39 (((zl a).1, (zl a).2), ((zl b).1, (zl b).2), ()) = _
  rw [F43_eq]
  have q1 : (zl (g : Int)).1 = false := by rw [zl_nat]
  simp only [pe, own_z ha (by decide), own_z hb (by decide), g29, mul_z sx ha (by decide), mul_z sy hb (by decide), e3, td, same_z sg (by decide), Option.bind_some, q1, zl_len0]
  rw [if_neg (by decide), if_neg (by decide), if_neg (by decide)]
  rw [if_neg (by decide)]
  by_cases h0 : g = 0
  · have a0 : a = 0 := by rw [h0, Nat.zero_mul] at k2; omega
    have b0 : b = 0 := by rw [h0, Nat.zero_mul] at k3; omega
    rw [if_pos (decide_eq_true h0), a0, b0, zl_zero]
    rfl
  · have g0 : (g : Int) ≠ 0 := by omega
    have da : (g : Int) ∣ a := Int.natAbs_dvd_natAbs.1 (by rw [Int.natAbs_natCast]; exact ⟨u, k2⟩)
    have db : (g : Int) ∣ b := Int.natAbs_dvd_natAbs.1 (by rw [Int.natAbs_natCast]; exact ⟨v, k3⟩)
    have ma : a.fmod (g : Int) = 0 := by rw [Int.fmod_eq_emod_of_nonneg _ (by omega)]; exact Int.emod_eq_zero_of_dvd da
    have mb : b.fmod (g : Int) = 0 := by rw [Int.fmod_eq_emod_of_nonneg _ (by omega)]; exact Int.emod_eq_zero_of_dvd db
    rw [if_neg (by rw [decide_eq_true_eq]; exact h0)]
    simp only [div_z ha sg (by decide) (by decide) g0, div_z hb sg (by decide) (by decide) g0, ma, mb, zl_zero, Option.bind_some]
    rfl

theorem zl_of_pos {b : Int} (h : ¬ (zl b).1 = true) : ∃ n : Nat, b = (n : Int) := by
  rw [zl_1, decide_eq_true_eq] at h
  exact ⟨b.toNat, by omega⟩

theorem L45_one : L45 (1, ()) = some ((zl 1, ()), ()) := by
  show F45 (1, ()) = _
  rw [F45_eq, zl_one, lim_1]
  rfl

theorem F44_z {a b c : Int} (ha : Sz 9 a) (hb : Sz 9 b) (hc : Sz 9 c) : L44 (zl a, zl b, zl c, ()) = some ((true, ()), ()) := by
  have td := told_z
  have l45 := L45_one
  show F44 L12 L13 L17 L31 L33 L37 L39 L45 (((zl a).1, (zl a).2), ((zl b).1, (zl b).2), ((zl c).1, (zl c).2), ()) = _
  rw [F44_eq]
  simp only [pe]
  by_cases q1 : (zl b).1 = true
  · rw [if_pos q1]
  by_cases q2 : (zl c).1 = true
  · rw [if_neg q1, if_pos q2]
  obtain ⟨n, rfl⟩ := zl_of_pos q1
  obtain ⟨m, rfl⟩ := zl_of_pos q2
  rw [if_neg q1, if_neg q2, zl_len0]
  by_cases q3 : m = 0
  · rw [if_pos (decide_eq_true q3)]
  rw [if_neg (by rw [decide_eq_true_eq]; exact q3)]
  by_cases q4 : 7 < (lim n).length
  · rw [if_pos (by rw [zl_natlen, decide_eq_true_eq]; omega)]
  rw [if_neg (by rw [zl_natlen, decide_eq_true_eq]; omega)]
  have hl1 : (lim 1).length = 1 := by rw [lim_1]; rfl
  have hn1 : (lim (n + 1)).length ≤ 8 := by
    have := lim_add_length n 1
    omega
  have s1 : Sz 1 (1 : Int) := by unfold Sz; rw [show (1 : Int).natAbs = 1 from rfl, hl1]; decide
  obtain ⟨A, hA, hAm⟩ := fmod_nonneg (a := a) q3
  have hml : (lim m).length ≤ 9 := Sz_nat.1 hc
  have ha2 : Sz 200 a := ha.mono (by decide)
  have p1 := L31_spec (n := n) ha2 (by omega) q3 (by omega) hA hAm
  have p2 := L31_spec (n := n + 1) ha2 hn1 q3 (by omega) hA hAm
  have e1 : L33 (zl (n : Int), zl 1, ()) = some ((zl ((n + 1 : Nat) : Int), 0, ()), ()) := by
    rw [add_z hb s1 (by decide)]
    simp only [Int.natCast_add]
    rfl
  have sp : Sz 9 ((A ^ n % m : Nat) : Int) := Sz_nat.2 (Nat.le_trans (lim_length_mono (Nat.le_of_lt (Nat.mod_lt _ (Nat.pos_of_ne_zero q3)))) hml)
  have sq : Sz 9 ((A ^ (n + 1) % m : Nat) : Int) := Sz_nat.2 (Nat.le_trans (lim_length_mono (Nat.le_of_lt (Nat.mod_lt _ (Nat.pos_of_ne_zero q3)))) hml)
  have hm0 : (m : Int) ≠ 0 := by omega
  have e4 : (((A ^ n % m : Nat) : Int) * a).fmod (m : Int) = ((A ^ (n + 1) % m : Nat) : Int) := by
    rw [Int.fmod_eq_emod_of_nonneg _ (by omega)] at hA ⊢
    rw [Int.mul_emod, hA, Nat.pow_succ, Int.natCast_emod, Int.natCast_emod, Int.natCast_mul, Int.mul_emod ((A ^ n : Nat) : Int), Int.emod_emod]
    have : (A : Int) % m = A := Int.emod_eq_of_lt (by omega) (by omega)
    rw [this]
  have e3 : L39 (zl (((A ^ n % m : Nat) : Int) * a), zl (m : Int), ()) = some ((zl ((((A ^ n % m : Nat) : Int) * a).fdiv m), zl ((A ^ (n + 1) % m : Nat) : Int), 0, ()), ()) := by
    rw [div_z (sp.mul ha) hc (by decide) (by decide) hm0, e4]
  simp only [own_z ha (by decide), own_z hb (by decide), own_z hc (by decide), l45, e1, p1, p2, mul_z sp ha (by decide), e3, td, same_z sq (by decide), Option.bind_some]
  rw [if_pos (by decide)]
end Go.Proofs.Rf
/- The law of Laws returns true. -/
namespace Go.Proofs.Rf
open Go Go.RowKit

theorem text_z {z : Int} {b : Nat} (hb : 2 ≤ b) (hb1 : b ≤ 36) (hz : Sz 200 z) : ∃ s, L16 (zl z, (b : Int), ()) = some ((s, 0, ()), ()) ∧ L11 (s, (b : Int), ()) = some ((zl z, 0, ()), ()) :=
  ⟨_, L16_spec hb hb1 hz, by rw [L11_spec, parsed hb hb1 hz]⟩

theorem fmod_lt {a b : Int} (h0 : b ≠ 0) : (a.fmod b).natAbs < b.natAbs ∧ (a.fmod b ≠ 0 → decide (a.fmod b < 0) = decide (b < 0)) := by
  rcases Int.lt_or_gt_of_ne h0 with h | h
  · have h1 := (Int.fdiv_fmod_unique' (a := a) (b := b) (r := a.fmod b) (q := a.fdiv b) h).1 ⟨rfl, rfl⟩
    refine ⟨by omega, fun h2 => ?_⟩
    rw [decide_eq_decide]
    omega
  · have h1 := (Int.fdiv_fmod_unique (a := a) (b := b) (r := a.fmod b) (q := a.fdiv b) h).1 ⟨rfl, rfl⟩
    refine ⟨by omega, fun h2 => ?_⟩
    rw [decide_eq_decide]
    omega

theorem fdiv_parts {a b : Int} (ha : Sz 9 a) (h0 : b ≠ 0) (hb : Sz 9 b) : Sz 20 (a.fdiv b * b) ∧ Sz 100 (a.fdiv b) ∧ Sz 9 (a.fmod b) ∧ a.fdiv b * b + a.fmod b = a := by
  have e : a.fdiv b * b + a.fmod b = a := by
    have := Int.mul_fdiv_add_fmod a b
    rw [Int.mul_comm]
    omega
  have h1 := (fmod_lt (a := a) h0).1
  have s1 : Sz 9 (a.fmod b) := hb.le (by omega)
  have e2 : a.fdiv b * b = a - a.fmod b := by omega
  have s2 : Sz 20 (a.fdiv b * b) := by rw [e2]; exact (ha.sub s1).mono (by decide)
  refine ⟨s2, ?_, s1, e⟩
  refine (s2.mono (show 20 ≤ 100 by decide)).le ?_
  rw [Int.natAbs_mul]
  have : 0 < b.natAbs := by omega
  exact Nat.le_mul_of_pos_right _ this

/-- A right number that is short. -/
theorem right_short {a : Bool × List Int} (wa : Wf a.2) (hl : (a.2.length : Int) ≤ 9 ∨ a.2.length = 201) (h : ¬ (!err a.1 a.2 == 0) = true) : ∃ x, a = zl x ∧ Sz 9 x := by
  have h1 : err a.1 a.2 = 0 := by
    rcases Classical.em (err a.1 a.2 = 0) with q | q
    · exact q
    · exact (h (ne_zero_beq q)).elim
  obtain ⟨x, hx, h2⟩ := err_zero (neg := a.1) wa h1
  refine ⟨x, hx, ?_⟩
  unfold Sz
  have : a.2 = lim x.natAbs := congrArg Prod.snd hx
  rw [← this]
  omega

theorem zl_nz {b : Int} : decide (((zl b).2.length : Int) > 0) = decide (b ≠ 0) := by
  rw [zl_2, decide_eq_decide]
  constructor
  · rintro h rfl
    rw [show (0 : Int).natAbs = 0 from rfl, lim_zero] at h
    simp at h
  · intro h
    rcases Nat.eq_zero_or_pos (lim b.natAbs).length with q | q
    · have := lim_eq_nil.1 (List.eq_nil_of_length_eq_zero q)
      omega
    · omega

noncomputable def law8 : (SV.denL ps8) → Option (rs8).den := F8 K9 L11 L12 L13 L14 L16 L17 L23 L33 L37 L39 L41 L42 L43 L44
theorem law8_ok : CallOK Try.prog 8 (mkCall ps8 rs8 law8) := call8 okL11 okL12 okL13 okL14 okL16 okL17 okL23 okL33 okL37 okL39 okL41 okL42 okL43 okL44 okK9

/-- The remainder's size is below the divisor's. -/
theorem cmp_z {a b : Int} (hb : Sz 9 b) (h0 : b ≠ 0) (hr : Sz 9 (a.fmod b)) : L41 ((false, (zl (a.fmod b)).2), (false, (zl b).2), ()) = some ((-1, 0, ()), ()) := by
  have e : ∀ z : Int, (false, (zl z).2) = zl ((z.natAbs : Nat) : Int) := fun z => by rw [zl_nat]; rfl
  have h1 := (fmod_lt (a := a) h0).1
  have s1 : Sz 200 ((((a.fmod b).natAbs : Nat)) : Int) := Sz_nat.2 (Nat.le_trans hr (by decide))
  have s2 : Sz 200 (((b.natAbs : Nat)) : Int) := Sz_nat.2 (Nat.le_trans hb (by decide))
  show L41 (((false, (zl (a.fmod b)).2) : Bool × List Int), ((false, (zl b).2) : Bool × List Int), ()) = _
  rw [e, e, L41_spec s1 s2 (ers_zl s1 s2), if_pos (by omega)]

section
variable {K : (SV.denL ps9) → Option (rs9).den} (hK : K () = some ((true, ()), ())) {x y z : Int} (hx : Sz 9 x) (hy : Sz 9 y) (hz : Sz 9 z)
include hK hx hy hz

theorem law8_right (h14 : L14 (9, [((zl x).1, (zl x).2), ((zl y).1, (zl y).2), ((zl z).1, (zl z).2)], ()) = some ((true, ()), ())) (wz : Wf (zl z).2) :
    F8 K L11 L12 L13 L14 L16 L17 L23 L33 L37 L39 L41 L42 L43 L44 (((zl x).1, (zl x).2), ((zl y).1, (zl y).2), ((zl z).1, (zl z).2), ()) = some ((true, ()), ()) := by
  have td := told_z
  have c23' : ∀ w : Int, Sz 9 w → L23 (zl w, ()) = some ((0, ()), ()) := fun w hw => by
    have e := L23_spec (neg := decide (w < 0)) (l := lim w.natAbs) (by have := zl_len hw; rw [zl_2] at this; omega)
    rw [err_zl (Nat.le_trans hw (by decide))] at e
    exact e
  have f42 := F42_z hx hy hz
  have f43 := F43_z hx hy
  have f44 := F44_z hx hy hz
  have e12 := same_z hx (by decide)
  have ox := own_z hx (by decide)
  have oy := own_z hy (by decide)
  have cx := c23' x hx
  have cy := c23' y hy
  have cz := c23' z hz
  rw [F8_eq, h14]
  simp only [pe, cx, cy, cz, Option.bind_some]
  rw [if_neg (by decide), if_neg (by decide), if_neg (by decide), if_neg (by decide)]
  by_cases hl : decide (((zl z).2.length : Int) > 0) = true
  · rw [if_pos hl, if_pos (by simpa using hl)]
    have hw := wz.getD 0
    obtain ⟨m, hm⟩ : ∃ m : Nat, (zl z).2.getD 0 0 = (m : Int) := ⟨((zl z).2.getD 0 0).toNat, by omega⟩
    have e1 : IntKind.i64.wrap (2 + IntKind.i64.wrap (Int.tmod ((zl z).2.getD 0 0) 35)) = ((2 + m % 35 : Nat) : Int) := by
      rw [hm, Int.tmod_eq_emod_of_nonneg (by omega)]
      have h2 : (m : Int) % 35 = ((m % 35 : Nat) : Int) := by omega
      rw [h2, wi (n := ((m % 35 : Nat) : Int)) (by omega) (by omega), wi (by omega) (by omega)]
      omega
    rw [e1]
    obtain ⟨s, t1, t2⟩ := text_z (z := x) (b := 2 + m % 35) (by omega) (by omega) (hx.mono (by decide))
    simp only [ox, oy, t1, t2, td, e12, f42, f43, f44, hK, Option.bind_some, if_true]
    rw [if_neg (by decide), if_neg (by decide), if_neg (by decide)]
    by_cases h0 : y = 0
    · rw [if_neg (by rw [zl_nz]; simpa using h0)]
    · obtain ⟨s1, s2, s3, e⟩ := fdiv_parts hx h0 hy
      have d1 := div_z hx hy (by decide) (by decide) h0
      have d2 := mul_z s2 hy (by decide)
      have d3 := add_z s1 s3 (by decide)
      rw [e] at d3
      have d4 := cmp_z (a := x) hy h0 s3
      rw [if_pos (by rw [zl_nz]; simpa using h0)]
      simp only [d1, d2, d3, d4, td, e12, Option.bind_some]
      rw [if_neg (by decide), if_neg (by decide)]
      by_cases q : decide (((zl (x.fmod y)).2.length : Int) > 0) = true
      · have q2 : x.fmod y ≠ 0 := by
          rw [zl_nz] at q
          simpa using q
        rw [if_pos q, zl_1, zl_1, (fmod_lt (a := x) h0).2 q2, if_neg (by simp), if_neg (by decide), if_neg (by decide)]
      · rw [if_neg q, if_neg (by decide), if_neg (by decide)]
  · rw [if_neg hl]
    obtain ⟨s, t1, t2⟩ := text_z (z := x) (b := 2) (by omega) (by omega) (hx.mono (by decide))
    have t1' : L16 (zl x, 2, ()) = some ((s, 0, ()), ()) := t1
    have t2' : L11 (s, 2, ()) = some ((zl x, 0, ()), ()) := t2
    simp only [ox, oy, t1', t2', td, e12, f42, f43, f44, hK, Option.bind_some, if_true]
    rw [if_neg (by decide), if_neg (by decide), if_neg (by decide)]
    by_cases h0 : y = 0
    · rw [if_neg (by rw [zl_nz]; simpa using h0)]
    · obtain ⟨s1, s2, s3, e⟩ := fdiv_parts hx h0 hy
      have d1 := div_z hx hy (by decide) (by decide) h0
      have d2 := mul_z s2 hy (by decide)
      have d3 := add_z s1 s3 (by decide)
      rw [e] at d3
      have d4 := cmp_z (a := x) hy h0 s3
      rw [if_pos (by rw [zl_nz]; simpa using h0)]
      simp only [d1, d2, d3, d4, td, e12, Option.bind_some]
      rw [if_neg (by decide), if_neg (by decide)]
      by_cases q : decide (((zl (x.fmod y)).2.length : Int) > 0) = true
      · have q2 : x.fmod y ≠ 0 := by
          rw [zl_nz] at q
          simpa using q
        rw [if_pos q, zl_1, zl_1, (fmod_lt (a := x) h0).2 q2, if_neg (by simp), if_neg (by decide), if_neg (by decide)]
      · rw [if_neg q, if_neg (by decide), if_neg (by decide)]
end

theorem law8_of {K : (SV.denL ps9) → Option (rs9).den} (hK : K () = some ((true, ()), ())) {n1 n2 n3 : Bool} {l1 l2 l3 : List Int} (w1 : Wf l1) (w2 : Wf l2) (w3 : Wf l3) :
    F8 K L11 L12 L13 L14 L16 L17 L23 L33 L37 L39 L41 L42 L43 L44 ((n1, l1), (n2, l2), (n3, l3), ()) = some ((true, ()), ()) := by
  obtain ⟨b, h14, hb⟩ := L14_spec (most := 9) (ls := [(n1, l1), (n2, l2), (n3, l3)]) (by simp)
  cases b with
  | false =>
    rw [F8_eq, h14]
    simp only [Option.bind_some]
    rw [if_pos (show (!false) = true from rfl), hK]
    rfl
  | true =>
    have q1 := hb rfl (n1, l1) (by simp)
    have q2 := hb rfl (n2, l2) (by simp)
    have q3 := hb rfl (n3, l3) (by simp)
    have g1 := L23_spec (neg := n1) (l := l1) (by simp only at q1; omega)
    have g2 := L23_spec (neg := n2) (l := l2) (by simp only at q2; omega)
    have g3 := L23_spec (neg := n3) (l := l3) (by simp only at q3; omega)
    by_cases e1 : (!err n1 l1 == 0) = true
    · rw [F8_eq, h14]
      simp only [g1, hK, Option.bind_some]
      rw [if_neg (by decide), if_pos e1]
    by_cases e2 : (!err n2 l2 == 0) = true
    · rw [F8_eq, h14]
      simp only [g1, g2, hK, Option.bind_some]
      rw [if_neg (by decide), if_neg e1, if_pos e2]
    by_cases e3 : (!err n3 l3 == 0) = true
    · rw [F8_eq, h14]
      simp only [g1, g2, g3, hK, Option.bind_some]
      rw [if_neg (by decide), if_neg e1, if_neg e2, if_pos e3]
    obtain ⟨x, hx, sx⟩ := right_short (a := (n1, l1)) w1 q1 e1
    obtain ⟨y, hy, sy⟩ := right_short (a := (n2, l2)) w2 q2 e2
    obtain ⟨z, hz, sz⟩ := right_short (a := (n3, l3)) w3 q3 e3
    have a1 := congrArg Prod.fst hx
    have b1 := congrArg Prod.snd hx
    have a2 := congrArg Prod.fst hy
    have b2 := congrArg Prod.snd hy
    have a3 := congrArg Prod.fst hz
    have b3 := congrArg Prod.snd hz
    simp only at a1 b1 a2 b2 a3 b3
    subst a1 b1 a2 b2 a3 b3
    exact law8_right hK sx sy sz h14 w3

theorem law8_true {n1 n2 n3 : Bool} {l1 l2 l3 : List Int} (w1 : Wf l1) (w2 : Wf l2) (w3 : Wf l3) : law8 ((n1, l1), (n2, l2), (n3, l3), ()) = some ((true, ()), ()) := law8_of K9_val w1 w2 w3
end Go.Proofs.Rf
