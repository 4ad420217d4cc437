/- Texts put together: S3. -/
import Derived.Test.YtgkgjgcoalmldaaM4
/- The reference's Root; the law of Shifts returns true. -/
namespace Go.Proofs.Rf
open Go Go.RowKit

/-- What the reference's root loop keeps. -/
structure RootOK (n m k : Nat) (r : List Int) : Prop where
  wf : Wf r
  len : r.length = m
  ex : ∃ M, val r = ((M * 2 ^ k : Nat) : Int) ∧ (M * 2 ^ k) * (M * 2 ^ k) ≤ n ∧ n < (M * 2 ^ k + 2 ^ k) * (M * 2 ^ k + 2 ^ k)

theorem or_and_bit (l s : Nat) : (l ||| 2 ^ s) &&& 2 ^ s = 2 ^ s := by
  refine Nat.eq_of_testBit_eq fun j => ?_
  rw [Nat.testBit_and, Nat.testBit_or, Nat.testBit_two_pow]
  by_cases h : s = j
  · simp [h]
  · simp [h]

theorem S26_step {n m i : Nat} {r : List Int} {b1 : Bool} {b0 : Bool} {l1 : List Int} (hnl : (lim n).length ≤ 200) (hm : m = (lim n).length / 2 + 1) (hi : i < 100000) (h : RootOK n m (i + 1) r) :
    ∃ r', S26_8 L49B L50B L62 (((), (), (), (i : Int), ()), ((b0, lim n, ()), (b1, l1, ()), r, ())) = some (.inl (((), (), (), (i : Int) - 1, ()), ((b0, lim n, ()), (b1, l1, ()), r', ()))) ∧ RootOK n m i r' := by
  obtain ⟨wr, hlr, M, hv, hle, hlt⟩ := h
  have e1 := wi_div (j := i) (by omega)
  have e2 := wi_mod i
  have e3 : IntKind.i64.wrap ((i : Int) - 1) = (i : Int) - 1 := wi (by omega) (by omega)
  have p0 : (i : Int) ≥ 0 := by omega
  have p1 : (0 : Int) ≤ ((i / 32 : Nat) : Int) := by omega
  have p2 : ¬ ((i % 32 : Nat) : Int) < 0 := by omega
  have H := S26_8_eq L49B L50B L62 (i : Int) b0 (lim n) b1 l1 r
  rw [if_pos (by rw [decide_eq_true_eq]; exact p0)] at H
  by_cases hge : m ≤ i / 32
  · have p3 : ((i / 32 : Nat) : Int) ≥ (r.length : Int) := by omega
    rw [e1, e3, if_pos (by rw [decide_eq_true_eq]; exact p3)] at H
    refine ⟨r, H, wr, hlr, 0, ?_, by simp, ?_⟩
    · have hvl := val_lt wr
      rw [hv, hlr, ← castB, B_pow] at hvl
      have hvl := Int.ofNat_lt.1 hvl
      have h2 : 2 ^ (32 * m) ≤ 2 ^ (i + 1) := Nat.pow_le_pow_right (by decide) (by omega)
      have hM : M = 0 := by
        rcases Nat.eq_zero_or_pos M with q | q
        · exact q
        · have := Nat.mul_le_mul_right (2 ^ (i + 1)) q
          omega
      rw [hv, hM, Nat.zero_mul, Nat.zero_mul]
    · have h1 := lim_lt n
      rw [B_pow] at h1
      rw [Nat.zero_mul, Nat.zero_add, ← Nat.pow_add]
      exact Nat.lt_of_lt_of_le h1 (Nat.pow_le_pow_right (by decide) (by omega))
  · have p3 : ¬ ((i / 32 : Nat) : Int) ≥ (r.length : Int) := by omega
    have p4 : ((i / 32 : Nat) : Int) < (r.length : Int) := by omega
    obtain ⟨e4, t0, t1⟩ := Wf_pow2 (s := i % 32) (by omega)
    rw [e1, e2, e3, e4, if_neg (by rw [decide_eq_true_eq]; exact p3), if_pos p1, if_pos p4, if_neg p2, if_pos p1, if_pos p4, Int.toNat_natCast] at H
    have hg : r.getD (i / 32) 0 = (lb (M * 2 ^ (i + 1)) (i / 32) : Int) := lb_of_val wr hv _
    have hl : lb (M * 2 ^ (i + 1)) (i / 32) = M * 2 ^ (i % 32 + 1) % 2 ^ 32 := by
      unfold lb
      rw [show i + 1 = (i % 32 + 1) + 32 * (i / 32) by omega, Nat.pow_add, ← Nat.mul_assoc, Nat.mul_div_cancel _ (Nat.two_pow_pos _)]
    obtain ⟨ho, ho1⟩ := or_bit_in (by omega) hl
    have hlb := lb_lt (M * 2 ^ (i + 1)) (i / 32)
    rw [hg, or32 hlb t1, ho] at H
    have hw' : Wf (r.set (i / 32) ((lb (M * 2 ^ (i + 1)) (i / 32) + 2 ^ (i % 32) : Nat) : Int)) := wr.set _ (Int.natCast_nonneg _) (by
      generalize lb (M * 2 ^ (i + 1)) (i / 32) + 2 ^ (i % 32) = t at *
      omega)
    have hv' : val (r.set (i / 32) ((lb (M * 2 ^ (i + 1)) (i / 32) + 2 ^ (i % 32) : Nat) : Int)) = (((2 * M + 1) * 2 ^ i : Nat) : Int) := by
      have := q_up (M := M) (k := i % 32) (i := i / 32) (l := lb (M * 2 ^ (i + 1)) (i / 32))
      rw [show 32 * (i / 32) + i % 32 = i by omega] at this
      rw [val_set (by omega), hv, hg, this]
    have hlen' : (r.set (i / 32) ((lb (M * 2 ^ (i + 1)) (i / 32) + 2 ^ (i % 32) : Nat) : Int)).length = m := by rw [List.length_set]; exact hlr
    have hset : (r.set (i / 32) ((lb (M * 2 ^ (i + 1)) (i / 32) + 2 ^ (i % 32) : Nat) : Int)).getD (i / 32) 0 = ((lb (M * 2 ^ (i + 1)) (i / 32) + 2 ^ (i % 32) : Nat) : Int) := by
      rw [getD_set, if_pos ⟨rfl, by omega⟩]
    obtain ⟨l, hll⟩ : ∃ l, l = lb (M * 2 ^ (i + 1)) (i / 32) := ⟨_, rfl⟩
    rw [← hll] at H hw' hv' hlen' hset ho ho1 hlb hg
    have hback : val ((r.set (i / 32) ((l + 2 ^ (i % 32) : Nat) : Int)).set (i / 32) (l : Int)) = val r := by
      rw [List.set_set, val_set (by omega), hg]
      omega
    have hwback : Wf ((r.set (i / 32) ((l + 2 ^ (i % 32) : Nat) : Int)).set (i / 32) (l : Int)) := hw'.set _ (Int.natCast_nonneg _) (by omega)
    obtain ⟨r1, hr1⟩ : ∃ r1, r1 = r.set (i / 32) ((l + 2 ^ (i % 32) : Nat) : Int) := ⟨_, rfl⟩
    rw [← hr1] at H hw' hv' hlen' hset hback hwback
    obtain ⟨c, h50, ht⟩ := L50B_spec hw' (by omega)
    rw [hv', Int.toNat_natCast] at ht
    have hxl : (lim ((2 * M + 1) * 2 ^ i)).length ≤ m := by
      refine lim_length_of ?_
      have := val_lt hw'
      rw [hv', hlen', ← castB] at this
      exact Int.ofNat_lt.1 this
    obtain ⟨c2, r2, h49, ht2⟩ := L49B_spec (x := (2 * M + 1) * 2 ^ i) (by omega)
    have hsl := lim_mul_length ((2 * M + 1) * 2 ^ i) ((2 * M + 1) * 2 ^ i)
    rw [h50] at H
    simp only [Option.bind_some] at H
    rw [ht, h49] at H
    simp only [Option.bind_some] at H
    rw [ht2, L62_spec (by omega) (by omega)] at H
    simp only [Option.bind_some] at H
    have p5 : ((i / 32 : Nat) : Int) < (r1.length : Int) := by omega
    have hpow : 2 ^ (i + 1) = 2 * 2 ^ i := by rw [Nat.pow_succ, Nat.mul_comm]
    have hX : M * 2 ^ (i + 1) + 2 ^ i = (2 * M + 1) * 2 ^ i := by rw [hpow]; grind
    by_cases hgt : n < ((2 * M + 1) * 2 ^ i) * ((2 * M + 1) * 2 ^ i)
    · have hs : sg ((2 * M + 1) * 2 ^ i * ((2 * M + 1) * 2 ^ i)) n > 0 := by
        unfold sg
        rw [if_neg (by omega), if_neg (by omega)]
        decide
      rw [if_pos (by rw [decide_eq_true_eq]; exact hs), if_pos p1, if_pos p5, if_neg p2, if_pos p1, if_pos p5] at H
      have hand : bitop .andNot .u32 ((l + 2 ^ (i % 32) : Nat) : Int) ((2 ^ (i % 32) : Nat) : Int) = (l : Int) := by
        have hlt2 : l + 2 ^ (i % 32) < 4294967296 := by
          generalize l + 2 ^ (i % 32) = t at *
          omega
        rw [andNot32 hlt2 t1, ← ho, or_and_bit, ho, Nat.add_sub_cancel]
      rw [hset, hand] at H
      refine ⟨_, H, hwback, by rw [List.length_set]; exact hlen', 2 * M, ?_, ?_, ?_⟩
      · rw [hback, hv]
        congr 1
        rw [hpow]
        grind
      · have : 2 * M * 2 ^ i = M * 2 ^ (i + 1) := by rw [hpow]; grind
        rw [this]
        exact hle
      · have : 2 * M * 2 ^ i + 2 ^ i = (2 * M + 1) * 2 ^ i := by grind
        rw [this]
        exact hgt
    · have hs : ¬ sg ((2 * M + 1) * 2 ^ i * ((2 * M + 1) * 2 ^ i)) n > 0 := by
        unfold sg
        by_cases q : (2 * M + 1) * 2 ^ i * ((2 * M + 1) * 2 ^ i) < n
        · rw [if_pos q]
          decide
        · rw [if_neg q, if_pos (by omega)]
          decide
      rw [if_neg (by rw [decide_eq_true_eq]; exact hs)] at H
      refine ⟨_, H, hw', hlen', 2 * M + 1, hv', by omega, ?_⟩
      have : (2 * M + 1) * 2 ^ i + 2 ^ i = M * 2 ^ (i + 1) + 2 ^ (i + 1) := by rw [hpow]; grind
      rw [this]
      exact hlt

theorem L26_spec {n : Nat} (hl : (lim n).length ≤ 200) : ∃ r, IsRoot n r ∧ L26 (zl (n : Int), ()) = some ((zl (r : Int), 0, ()), ()) := by
  have hb := bl_le_len n
  have hlt := bl_lt n
  obtain ⟨m, hm⟩ : ∃ m, m = (lim n).length / 2 + 1 := ⟨_, rfl⟩
  obtain ⟨z, h1, r, rfl, hr⟩ := limL_ind (f := S26_8 L49B L50B L62) (fun x => (x.1.2.2.2.1 + 1).toNat)
    (fun x => ∃ (k : Nat) (r : List Int), x = (((), (), (), (k : Int) - 1, ()), ((false, lim n, ()), (false, [], ()), r, ())) ∧ k < 100000 ∧ RootOK n m k r)
    (fun z => ∃ r, z = (((), (), ()), ((false, [], ()), r, ())) ∧ RootOK n m 0 r) (by
    rintro x ⟨k, r, rfl, hk, hr⟩
    rcases Nat.eq_zero_or_pos k with rfl | hp
    · right
      refine ⟨_, ?_, r, rfl, hr⟩
      rw [S26_8_eq]
      rfl
    · left
      obtain ⟨k, rfl⟩ : ∃ k', k = k' + 1 := ⟨k - 1, by omega⟩
      obtain ⟨r', h2, h3⟩ := S26_step (b0 := false) (b1 := false) (l1 := []) hl hm (by omega) hr
      rw [show (k : Int) = ((k + 1 : Nat) : Int) - 1 by omega] at h2
      exact ⟨_, h2, ⟨k, r', by rw [show ((k + 1 : Nat) : Int) - 1 - 1 = (k : Int) - 1 by omega], by omega, h3⟩, by simp only; omega⟩)
    (((), (), (), (((bl n + 1) / 2 : Nat) : Int), ()), ((false, lim n, ()), (false, [], ()), List.replicate m 0, ())) ⟨(bl n + 1) / 2 + 1, _, by rw [show (((bl n + 1) / 2 + 1 : Nat) : Int) - 1 = (((bl n + 1) / 2 : Nat) : Int) by omega], by omega, by
      refine ⟨Wf.replicate _, by simp, 0, by rw [val_replicate, Nat.zero_mul]; rfl, by simp, ?_⟩
      rw [Nat.zero_mul, Nat.zero_add, ← Nat.pow_add]
      exact Nat.lt_of_lt_of_le hlt (Nat.pow_le_pow_right (by decide) (by omega))⟩
  obtain ⟨wr, hlr, M, hv, hle, hgt⟩ := hr
  rw [Nat.pow_zero, Nat.mul_one] at hv hle hgt
  have hMn : M ≤ n := by
    rcases Nat.eq_zero_or_pos M with q | q
    · omega
    · have := Nat.mul_le_mul_left M q
      omega
  refine ⟨M, ⟨hle, hgt⟩, ?_⟩
  have hl' : (lim (n : Int).natAbs).length ≤ 200 := by rw [Int.natAbs_natCast]; exact hl
  show F26 L23 L51 L67 Lg26_8 ((decide ((n : Int) < 0), lim (n : Int).natAbs), ()) = _
  rw [F26_eq, L23_spec (by omega), err_zl hl', decide_eq_false (Int.not_lt.2 (Int.natCast_nonneg n))]
  simp only [Option.bind_some, Int.natAbs_natCast]
  have e1 : IntKind.i64.wrap (IntKind.i64.wrap (Int.tdiv ((lim n).length : Int) 2) + 1) = (m : Int) := by
    rw [Int.tdiv_eq_ediv_of_nonneg (by omega), wi (n := ((lim n).length : Int) / 2) (by omega) (by omega), wi (by omega) (by omega)]
    omega
  have p1 : (0 : Int) ≤ (m : Int) := by omega
  have p2 : (m : Int) ≤ ((4294967296 : Nat) : Int) := by omega
  rw [if_neg (by decide), if_neg (by decide), e1, if_pos p1, if_pos (Int.le_refl _), if_pos p2, L67_spec (Wf_lim n) (val_lim n) (by omega)]
  simp only [Option.bind_some, Int.toNat_natCast]
  have e2 : IntKind.i64.wrap (Int.tdiv (IntKind.i64.wrap ((bl n : Int) + 1)) 2) = (((bl n + 1) / 2 : Nat) : Int) := by
    rw [wi (n := (bl n : Int) + 1) (by omega) (by omega), Int.tdiv_eq_ediv_of_nonneg (by omega), wi (by omega) (by omega)]
    omega
  have h1 : Lg26_8 (((), (), (), (((bl n + 1) / 2 : Nat) : Int), ()), (false, lim n, ()), (false, [], ()), List.replicate m 0, ()) = _ := h1
  rw [e2, h1]
  simp only [Option.bind_some]
  rw [L51_gen wr hv (by omega)]
  have hs : sgn false M = (M : Int) := rfl
  rw [hs, res_ok (show Sz 200 (M : Int) by unfold Sz; rw [Int.natAbs_natCast]; have := lim_length_mono hMn; omega)]
  rfl

theorem L26_err {neg : Bool} {a : List Int} (hl : a.length < 1000000000) (h : fst2 (err neg a) (if neg = true then 3 else 0) ≠ 0) :
    L26 ((neg, a), ()) = some (((false, []), fst2 (err neg a) (if neg = true then 3 else 0), ()), ()) := by
  show F26 L23 L51 L67 Lg26_8 ((neg, a), ()) = _
  rw [F26_eq, L23_spec (by omega)]
  simp only [Option.bind_some]
  unfold fst2 at h ⊢
  by_cases h0 : err neg a = 0
  · rw [h0] at h ⊢
    simp only [if_true] at h ⊢
    rw [if_neg (by decide)]
    by_cases h1 : neg = true
    · rw [if_pos h1, if_pos h1]
    · rw [if_neg h1] at h
      exact (h rfl).elim
  · rw [if_neg h0, if_pos (ne_zero_beq h0)]

theorem L27_err {neg : Bool} {a : List Int} (hl : a.length < 1000000000) (h : fst2 (err neg a) (if neg = true then 3 else 0) ≠ 0) :
    L27 ((neg, a), ()) = some (((false, []), fst2 (err neg a) (if neg = true then 3 else 0), ()), ()) := by
  show F27 L22 L52 L53 L58 L63 L69 L76 Lg27_8 ((neg, a), ()) = _
  rw [F27_eq, L22_spec (by omega), L53_spec]
  simp only [Option.bind_some]
  rw [L52_two]
  simp only [Option.bind_some]
  rw [if_pos (ne_zero_beq h)]

theorem root_same {neg : Bool} {a : List Int} (hw : Wf a) (hl : a.length < 1000000000) :
    ∃ m l e, L26 ((neg, a), ()) = some (((m, l), e, ()), ()) ∧ L27 ((neg, a), ()) = some (((m, l), e, ()), ()) ∧ l.length < 1000000000 := by
  by_cases h : fst2 (err neg a) (if neg = true then 3 else 0) = 0
  · have h1 : err neg a = 0 := by
      unfold fst2 at h
      split at h
      · assumption
      · exact h
    have h2 : ¬ neg = true := by
      unfold fst2 at h
      rw [if_pos h1] at h
      intro q
      rw [if_pos q] at h
      cases h
    obtain ⟨z, hz, hlen⟩ := err_zero hw h1
    obtain ⟨hz1, hz2⟩ := Prod.mk.inj hz
    have hz0 : ¬ z < 0 := by
      intro q
      rw [decide_eq_true q] at hz1
      exact h2 hz1
    obtain ⟨n, rfl⟩ : ∃ n : Nat, z = (n : Int) := ⟨z.natAbs, by omega⟩
    rw [Int.natAbs_natCast] at hz2
    have hln : (lim n).length ≤ 200 := by rw [← hz2]; exact hlen
    obtain ⟨r, hr, h26⟩ := L26_spec hln
    obtain ⟨s, hs, h27⟩ := L27_spec hln
    obtain rfl := hr.unique hs
    rw [hz]
    refine ⟨_, _, _, h26, h27, ?_⟩
    have hrn : r ≤ n := by
      rcases Nat.eq_zero_or_pos r with q | q
      · omega
      · have := Nat.mul_le_mul_left r q
        have := hr.1
        omega
    have := lim_length_mono hrn
    rw [Int.natAbs_natCast]
    omega
  · exact ⟨_, _, _, L26_err hl h, L27_err hl h, by decide⟩

noncomputable def law5 : (SV.denL ps5) → Option (rs5).den := F5 K9 L12 L13 L14 L17 L24 L25 L26 L27

theorem law5_ok : CallOK Try.prog 5 (mkCall ps5 rs5 law5) := call5 okL12 okL13 okL14 okL17 okL24 okL25 okL26 okL27 okK9

theorem law5_of {K : (SV.denL ps9) → Option (rs9).den} (hK : K () = some ((true, ()), ())) {neg : Bool} {a : List Int} (hw : Wf a) (n : Int) : F5 K L12 L13 L14 L17 L24 L25 L26 L27 ((neg, a), n, ()) = some ((true, ()), ()) := by
  rw [F5_eq]
  obtain ⟨b, h14, hb⟩ := L14_spec (most := 30) (ls := [(neg, a)]) (by simp)
  rw [h14]
  simp only [Option.bind_some]
  cases b with
  | false =>
    rw [if_pos (show (!false) = true from rfl), hK]
    rfl
  | true =>
    have hlen : a.length ≤ 201 := by
      have := hb rfl (neg, a) (by simp)
      simp only at this
      omega
    obtain ⟨m1, k1, e1, h24, h25, q1⟩ := shift_same (neg := neg) hw (by omega) n
    obtain ⟨m2, k2, e2, h26, h27, q2⟩ := root_same (neg := neg) hw (by omega)
    have h17 := L17_spec (neg := neg) (l := a) (by omega)
    rw [h24, h17, h26]
    simp only [Option.bind_some]
    rw [h25, h27]
    simp only [Option.bind_some]
    rw [L13_two m1 k1, L13_two m2 k2]
    simp only [Option.bind_some]
    rw [L12_same (neg := m1) q1, L12_same (neg := m2) q2]
    simp only [Option.bind_some]
    rw [hK]
    simp

theorem law5_true {neg : Bool} {a : List Int} (hw : Wf a) (n : Int) : law5 ((neg, a), n, ()) = some ((true, ()), ()) := law5_of K9_val hw n
end Go.Proofs.Rf
