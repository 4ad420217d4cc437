/- What the functions on limbs come to: sums and products, in both texts. -/
import Derived.Test.YtgkgjgcoalmldaaP2
import Derived.Test.YtgkgjgcoalmldaaE400
namespace Go.Proofs.Rf
open Go

/-- Lengths of lists that are dealt with. -/
def Sm (l : List Int) : Prop := l.length < 1000000000

theorem F50_spec {l : List Int} (hw : Wf l) (hl : l.length < 4611686018427387904) : F50 (limL S50_2) (l, ()) = some ((lim (val l).toNat, ()), ()) := by
  obtain ⟨n, h1, h2, h3, h4⟩ := trim_loop S50_2_eq l hl
  rw [F50_eq, h1]
  show (if 0 ≤ (n : Int) then if (n : Int) ≤ (l.length : Int) then some ((List.take ((n : Int).toNat) l, ()), ()) else none else none) = _
  rw [if_pos (by omega), if_pos (by omega), Int.toNat_natCast, take_lim hw h2 h3 h4]

theorem F96_spec {l : List Int} (hw : Wf l) (hl : l.length < 4611686018427387904) : F96 (limL S96_2) (l, ()) = some ((lim (val l).toNat, ()), ()) := by
  obtain ⟨n, h1, h2, h3, h4⟩ := trim_loop S96_2_eq l hl
  rw [F96_eq, h1]
  show (if 0 ≤ (n : Int) then if (n : Int) ≤ (l.length : Int) then some ((List.take ((n : Int).toNat) l, ()), ()) else none else none) = _
  rw [if_pos (by omega), if_pos (by omega), Int.toNat_natCast, take_lim hw h2 h3 h4]

theorem tdivB {n : Int} (h : 0 ≤ n) : n.tdiv 4294967296 = n / 4294967296 := Int.tdiv_eq_ediv_of_nonneg h
theorem tmodB {n : Int} (h : 0 ≤ n) : n.tmod 4294967296 = n % 4294967296 := Int.tmod_eq_emod_of_nonneg h

/-- One round of the reference's sum. -/
theorem S48_step {a b r : List Int} {c : Int} {i : Nat} (wa : Wf a) (wb : Wf b) (hc : 0 ≤ c) (hc1 : c ≤ 1) (hr : r.length = i) (hi : i < a.length ∨ i < b.length) (hb : i < 1000000000) :
    S48_4 ((a, b, (), c, (i : Int), ()), (r, ())) = some (.inl ((a, b, (), (c + a.getD i 0 + b.getD i 0) / 4294967296, ((i + 1 : Nat) : Int), ()), (r ++ [(c + a.getD i 0 + b.getD i 0) % 4294967296], ()))) := by
  have xa := wa.getD i
  have xb := wb.getD i
  rw [S48_4_eq]
  simp only [Int.toNat_natCast, decide_eq_true_eq, Int.ofNat_lt]
  have ga : ¬ i < a.length → a.getD i 0 = 0 := fun h => getD_big (by omega)
  have gb : ¬ i < b.length → b.getD i 0 = 0 := fun h => getD_big (by omega)
  generalize a.getD i 0 = A at *
  generalize b.getD i 0 = B at *
  have e1 : IntKind.u64.wrap A = A := w64 (by omega) (by omega)
  have e2 : IntKind.u64.wrap B = B := w64 (by omega) (by omega)
  have e3 : IntKind.u64.wrap (c + A) = c + A := w64 (by omega) (by omega)
  have e4 : IntKind.u64.wrap (c + B) = c + B := w64 (by omega) (by omega)
  have e5 : IntKind.u64.wrap (c + A + B) = c + A + B := w64 (by omega) (by omega)
  have e6 : IntKind.i64.wrap ((i : Int) + 1) = ((i + 1 : Nat) : Int) := by rw [wi (by omega) (by omega)]; omega
  have d1 : IntKind.u64.wrap ((c + A + B) / 4294967296) = (c + A + B) / 4294967296 := w64 (by omega) (by omega)
  have d2 : IntKind.u64.wrap ((c + A) / 4294967296) = (c + A) / 4294967296 := w64 (by omega) (by omega)
  have d3 : IntKind.u64.wrap ((c + B) / 4294967296) = (c + B) / 4294967296 := w64 (by omega) (by omega)
  have m1 : IntKind.u32.wrap ((c + A + B) % 4294967296) = (c + A + B) % 4294967296 := w32 (by omega) (by omega)
  have m2 : IntKind.u32.wrap ((c + A) % 4294967296) = (c + A) % 4294967296 := w32 (by omega) (by omega)
  have m3 : IntKind.u32.wrap ((c + B) % 4294967296) = (c + B) % 4294967296 := w32 (by omega) (by omega)
  have t1 := tdivB (n := c + A + B) (by omega)
  have t2 := tdivB (n := c + A) (by omega)
  have t3 := tdivB (n := c + B) (by omega)
  have u1 := tmodB (n := c + A + B) (by omega)
  have u2 := tmodB (n := c + A) (by omega)
  have u3 := tmodB (n := c + B) (by omega)
  have hn : (0 : Int) ≤ (i : Int) := by omega
  have hlen : ∀ x : Int, r.length + [x].length ≤ 4294967296 := fun x => by simp; omega
  by_cases h1 : i < a.length
  · by_cases h2 : i < b.length
    · simp only [h1, h2, if_true, hn, e1, e2, e3, e5, e6, t1, u1, d1, m1, hlen]
    · simp only [h1, h2, if_true, if_false, hn, e1, e3, e6, t2, u2, d2, m2, hlen, gb h2, Int.add_zero]
  · have h2 : i < b.length := by omega
    simp only [h1, h2, if_true, if_false, hn, e2, e4, e6, t3, u3, d3, m3, hlen, ga h1, Int.add_zero]

theorem F48_spec {a b : List Int} (wa : Wf a) (wb : Wf b) (sa : Sm a) (sb : Sm b) : F48 (F50 (limL S50_2)) (limL S48_4) (a, b, ()) = some ((lim (val a + val b).toNat, ()), ()) := by
  unfold Sm at sa sb
  obtain ⟨z, h1, c, r, rfl, hw, hlen, hc, hc1, hv⟩ := limL_ind (f := S48_4) (fun x => (a.length + b.length) - x.1.2.2.2.2.1.toNat)
    (fun x => ∃ (c : Int) (i : Nat) (r : List Int), x = ((a, b, (), c, (i : Int), ()), (r, ())) ∧ r.length = i ∧ Wf r ∧ 0 ≤ c ∧ c ≤ 1 ∧ i ≤ max a.length b.length ∧ val r + 4294967296 ^ i * c = val (a.take i) + val (b.take i))
    (fun z => ∃ (c : Int) (r : List Int), z = (((), c, ()), (r, ())) ∧ Wf r ∧ r.length < 1000000000 ∧ 0 ≤ c ∧ c ≤ 1 ∧ val r + 4294967296 ^ r.length * c = val a + val b) (by
    rintro x ⟨c, i, r, rfl, hr, hw, hc, hc1, hi, hv⟩
    by_cases hd : i < a.length ∨ i < b.length
    · left
      have xa := wa.getD i
      have xb := wb.getD i
      refine ⟨_, S48_step wa wb hc hc1 hr hd (by omega), ⟨_, i + 1, _, rfl, by simp [hr], ?_, by omega, by omega, by omega, ?_⟩, ?_⟩
      · exact hw.append (Wf.cons (by omega) (by omega) Wf.nil)
      · rw [val_append, hr, val_take_succ, val_take_succ, powB]
        have := add_limb (P := 4294967296 ^ i) (V := val r) (s := c + a.getD i 0 + b.getD i 0) rfl
        simp only [val]
        grind
      · simp only [Int.toNat_natCast]; omega
    · right
      refine ⟨(((), c, ()), (r, ())), ?_, c, r, rfl, hw, by omega, hc, hc1, ?_⟩
      · rw [S48_4_eq]
        have q1 : ¬ i < a.length := fun q => hd (.inl q)
        have q2 : ¬ i < b.length := fun q => hd (.inr q)
        simp only [decide_eq_true_eq, Int.ofNat_lt, q1, q2, if_false]
      · rw [hr, hv, val_take_all (by omega), val_take_all (by omega)]) ((a, b, (), 0, ((0 : Nat) : Int), ()), ([], ())) ⟨0, 0, [], rfl, rfl, Wf.nil, by omega, by omega, by omega, by simp [val]⟩
  rw [F48_eq]
  rw [show limL S48_4 ((a, b, (), 0, 0, ()), [], ()) = _ from h1]
  have e1 : IntKind.u32.wrap c = c := w32 (by omega) (by omega)
  show (if List.length r + [IntKind.u32.wrap c].length ≤ 4294967296 then (F50 (limL S50_2) (r ++ [IntKind.u32.wrap c], ())).bind fun y => some ((y.1.1, ()), ()) else none) = _
  rw [e1, if_pos (by simp; omega), F50_spec (hw.append (Wf.cons hc (by omega) Wf.nil)) (by simp; omega)]
  rw [val_append]
  simp only [val, Int.mul_zero, Int.add_zero, hv, Option.bind_some]

theorem List.take_set_succ_aux {r : List Int} {i : Nat} {v : Int} (h : i < r.length) : (r.set i v).take (i + 1) = r.take i ++ [v] := by
  rw [List.take_succ_eq_append_getElem (by simpa using h), List.take_set, List.set_eq_of_length_le (by simp; omega)]
  simp

theorem powB_mono {i j : Nat} (h : i ≤ j) : (4294967296 : Int) ^ i ≤ 4294967296 ^ j := by
  induction h with
  | refl => exact Int.le_refl _
  | step h ih =>
    rename_i m
    have := powB_pos m
    rw [powB]
    omega

/-! ### The program's sum -/
theorem F71_spec {a : List Int} (i : Nat) : F71 (a, (i : Int), ()) = some ((a.getD i 0, ()), ()) := by
  rw [F71_eq]
  simp only [decide_eq_true_eq, Int.ofNat_lt, Int.toNat_natCast]
  by_cases h : i < a.length
  · simp only [h, if_true, show (0 : Int) ≤ (i : Int) by omega]
  · simp only [h, if_false, getD_big (show a.length ≤ i by omega)]

theorem S59_step {a b r : List Int} {c : Int} {i m : Nat} (wa : Wf a) (wb : Wf b) (hc : 0 ≤ c) (hc1 : c ≤ 1) (hr : r.length = m) (hi : i < m) (hb : m < 2000000000) :
    S59_4 F71 ((a, b, (), c, (m : Int), (i : Int), ()), (r, ())) = some (.inl ((a, b, (), (c + a.getD i 0 + b.getD i 0) / 4294967296, (m : Int), ((i + 1 : Nat) : Int), ()), (r.set i ((c + a.getD i 0 + b.getD i 0) % 4294967296), ()))) := by
  have xa := wa.getD i
  have xb := wb.getD i
  rw [S59_4_eq]
  have q1 := F71_spec (a := a) i
  have q2 := F71_spec (a := b) i
  rw [q1, q2]
  simp only [Option.bind_some, decide_eq_true_eq, Int.ofNat_lt, Int.toNat_natCast]
  generalize a.getD i 0 = A at *
  generalize b.getD i 0 = B at *
  have e1 : IntKind.u64.wrap A = A := w64 (by omega) (by omega)
  have e2 : IntKind.u64.wrap B = B := w64 (by omega) (by omega)
  have e3 : IntKind.u64.wrap (A + B) = A + B := w64 (by omega) (by omega)
  have e4 : IntKind.u64.wrap (A + B + c) = A + B + c := w64 (by omega) (by omega)
  have e6 : IntKind.i64.wrap ((i : Int) + 1) = ((i + 1 : Nat) : Int) := by rw [wi (by omega) (by omega)]; omega
  have f1 : (A + B + c).fdiv (2 ^ 32) = (A + B + c) / 4294967296 := by rw [Int.fdiv_eq_ediv_of_nonneg _ (by decide)]; rfl
  have e7 : A + B + c = c + A + B := by omega
  rw [if_pos hi, if_pos (show (0 : Int) ≤ (i : Int) by omega), if_pos (show i < r.length by omega), e1, e2, e3, e4, f1, w32m, e6, e7]

theorem F59_spec {a b : List Int} (wa : Wf a) (wb : Wf b) (sa : Sm a) (sb : Sm b) : F59 (F96 (limL S96_2)) (limL (S59_4 F71)) (a, b, ()) = some ((lim (val a + val b).toNat, ()), ()) := by
  unfold Sm at sa sb
  obtain ⟨m, hm⟩ : ∃ m, m = max a.length b.length + 1 := ⟨_, rfl⟩
  obtain ⟨z, h1, r, rfl, hw, hlen, hv⟩ := limL_ind (f := S59_4 F71) (fun x => m - x.1.2.2.2.2.2.1.toNat)
    (fun x => ∃ (c : Int) (i : Nat) (r : List Int), x = ((a, b, (), c, (m : Int), (i : Int), ()), (r, ())) ∧ r.length = m ∧ Wf r ∧ 0 ≤ c ∧ c ≤ 1 ∧ i ≤ m ∧ val (r.take i) + 4294967296 ^ i * c = val (a.take i) + val (b.take i))
    (fun z => ∃ r : List Int, z = (((), ()), (r, ())) ∧ Wf r ∧ r.length = m ∧ val r = val a + val b) (by
    rintro x ⟨c, i, r, rfl, hr, hw, hc, hc1, hi, hv⟩
    by_cases hd : i < m
    · left
      have xa := wa.getD i
      have xb := wb.getD i
      refine ⟨_, S59_step wa wb hc hc1 hr hd (by omega), ⟨_, i + 1, _, rfl, by simp [hr], ?_, by omega, by omega, by omega, ?_⟩, ?_⟩
      · exact hw.set i (by omega) (by omega)
      · rw [List.take_set_succ_aux, val_append, val_take_succ, val_take_succ, powB]
        · have := add_limb (P := 4294967296 ^ i) (V := val (r.take i)) (s := c + a.getD i 0 + b.getD i 0) rfl
          simp only [val, List.length_take, Nat.min_eq_left (show i ≤ r.length by omega)]
          grind
        · omega
      · simp only [Int.toNat_natCast]; omega
    · right
      have him : i = m := by omega
      subst him
      refine ⟨(((), ()), (r, ())), ?_, r, rfl, hw, hr, ?_⟩
      · rw [S59_4_eq]
        simp only [decide_eq_true_eq, Int.ofNat_lt, hd, if_false]
      · rw [List.take_of_length_le (by omega), val_take_all (by omega), val_take_all (by omega)] at hv
        have l1 := val_lt wa
        have l2 := val_lt wb
        have l3 := val_nonneg hw
        have p1 : (4294967296 : Int) ^ a.length ≤ 4294967296 ^ max a.length b.length := powB_mono (by omega)
        have p2 : (4294967296 : Int) ^ b.length ≤ 4294967296 ^ max a.length b.length := powB_mono (by omega)
        have p3 := powB_pos (max a.length b.length)
        have p4 : (4294967296 : Int) ^ i = 4294967296 ^ max a.length b.length * 4294967296 := by rw [hm, powB]
        have hc0 : c = 0 := by
          rcases Int.lt_or_le 0 c with q | q
          · have : c = 1 := by omega
            subst this
            rw [p4] at hv
            omega
          · omega
        rw [hc0] at hv
        omega) ((a, b, (), 0, (m : Int), ((0 : Nat) : Int), ()), (List.replicate m 0, ())) ⟨0, 0, _, rfl, by simp, Wf.replicate m, by omega, by omega, by omega, by simp [val]⟩
  have hmx : imax (a.length : Int) (b.length : Int) + 1 = (m : Int) := by unfold imax; split <;> omega
  have hwm : IntKind.i64.wrap (m : Int) = (m : Int) := wi (by omega) (by omega)
  rw [F59_eq]
  simp only [hmx, hwm, Int.toNat_natCast, List.length_replicate]
  rw [if_pos (by omega), if_pos (by omega), if_pos (by omega)]
  rw [show limL (S59_4 F71) ((a, b, (), 0, (m : Int), 0, ()), List.replicate m 0, ()) = _ from h1]
  show ((F96 (limL S96_2) (r, ())).bind fun y => some ((y.1.1, ()), ())) = _
  rw [F96_spec hw (by omega), hv]
  rfl
end Go.Proofs.Rf
