/- Texts put together: P4. -/
import Derived.Test.YtgkgjgcoalmldaaM3
/- What the functions on limbs come to: products, in both texts. -/
namespace Go.Proofs.Rf
open Go

theorem getD_set {r : List Int} {i k : Nat} {v : Int} : (r.set i v).getD k 0 = if i = k ∧ i < r.length then v else r.getD k 0 := by
  simp only [List.getD_eq_getElem?_getD, List.getElem?_set]
  split
  · rename_i h
    subst h
    split
    · rename_i h; simp [h]
    · rename_i h; simp [h, List.getElem?_eq_none (show r.length ≤ i by omega)]
  · rename_i h; simp [h]

/-- What the inner loop does: x times b is added from place i on. -/
structure InnerOK (b r : List Int) (i : Nat) (x : Int) (k : Nat) (c : Int) (r' : List Int) : Prop where
  len : r'.length = r.length
  wf : Wf r'
  c0 : 0 ≤ c
  c1 : c < 4294967296
  vl : val r' + 4294967296 ^ (i + k) * c = val r + 4294967296 ^ i * (x * val (b.take k))
  hi : ∀ j, i + k ≤ j → r'.getD j 0 = r.getD j 0

theorem InnerOK.zero {b r : List Int} {i : Nat} {x : Int} (hw : Wf r) : InnerOK b r i x 0 0 r :=
  ⟨rfl, hw, by omega, by omega, by simp [val], fun _ _ => rfl⟩

theorem InnerOK.step {b r : List Int} {i : Nat} {x : Int} {k : Nat} {c : Int} {r' : List Int} (h : InnerOK b r i x k c r') (wb : Wf b) (hx : 0 ≤ x) (hx1 : x < 4294967296) (hk : i + k < r.length) :
    InnerOK b r i x (k + 1) ((c + x * b.getD k 0 + r'.getD (i + k) 0) / 4294967296) (r'.set (i + k) ((c + x * b.getD k 0 + r'.getD (i + k) 0) % 4294967296)) := by
  have xb := wb.getD k
  have xr := h.wf.getD (i + k)
  have hb := mul_bound h.c0 h.c1 hx hx1 xb.1 xb.2 xr.1 xr.2
  have hl := h.len
  refine ⟨by simp [hl], h.wf.set _ (by omega) (by omega), by omega, by omega, ?_, fun j hj => ?_⟩
  · rw [val_set (by omega), val_take_succ, show i + (k + 1) = (i + k) + 1 by omega, powB]
    have e1 := mul_limb (P := 4294967296 ^ (i + k)) (V := val r') (c := c) (x := x) (y := b.getD k 0) (r := r'.getD (i + k) 0) (s := c + x * b.getD k 0 + r'.getD (i + k) 0) rfl
    have e2 : (4294967296 : Int) ^ (i + k) = 4294967296 ^ i * 4294967296 ^ k := Int.pow_add ..
    have e3 := h.vl
    grind
  · rw [getD_set, if_neg (by omega)]
    exact h.hi j (by omega)

theorem S49_7_spec {a b r : List Int} {i : Nat} (wa : Wf a) (wb : Wf b) (sa : Sm a) (sb : Sm b) (wr : Wf r) (hr : r.length = a.length + b.length) (hi : i < a.length) :
    ∃ c r', limL S49_7 ((a, b, (), (i : Int), 0, 0, ()), (r, ())) = some ((a, b, (), (i : Int), c, ()), (r', ())) ∧ InnerOK b r i (a.getD i 0) b.length c r' := by
  unfold Sm at sa sb
  have xa := wa.getD i
  obtain ⟨z, h1, c, r', rfl, h2⟩ := limL_ind (f := S49_7) (fun x => b.length - x.1.2.2.2.2.2.1.toNat)
    (fun x => ∃ (c : Int) (k : Nat) (r' : List Int), x = ((a, b, (), (i : Int), c, (k : Int), ()), (r', ())) ∧ k ≤ b.length ∧ InnerOK b r i (a.getD i 0) k c r')
    (fun z => ∃ (c : Int) (r' : List Int), z = ((a, b, (), (i : Int), c, ()), (r', ())) ∧ InnerOK b r i (a.getD i 0) b.length c r') (by
    rintro x ⟨c, k, r', rfl, hk, hI⟩
    by_cases hd : k < b.length
    · left
      have hst := hI.step wb xa.1 xa.2 (by omega)
      refine ⟨_, ?_, ⟨_, k + 1, _, rfl, by omega, hst⟩, by simp only [Int.toNat_natCast]; omega⟩
      have xb := wb.getD k
      have xr := hI.wf.getD (i + k)
      have hb := mul_bound hI.c0 hI.c1 xa.1 xa.2 xb.1 xb.2 xr.1 xr.2
      have hl := hI.len
      have hc := hI.c0
      have hc1 := hI.c1
      rw [S49_7_eq]
      have e0 : IntKind.i64.wrap ((i : Int) + (k : Int)) = ((i + k : Nat) : Int) := by rw [wi (by omega) (by omega)]; omega
      simp only [e0, Int.toNat_natCast, decide_eq_true_eq, Int.ofNat_lt]
      have q1 : i + k < r'.length := by omega
      have p1 : (0 : Int) ≤ (i : Int) := by omega
      have p2 : (0 : Int) ≤ (k : Int) := by omega
      have p3 : (0 : Int) ≤ ((i + k : Nat) : Int) := by omega
      simp only [hd, hi, q1, p1, p2, p3, if_true]
      generalize a.getD i 0 = A at *
      generalize b.getD k 0 = B at *
      generalize r'.getD (i + k) 0 = E at *
      obtain ⟨b1, b2, b3, b4⟩ := hb
      generalize hM : A * B = M at *
      have e1 : IntKind.u64.wrap A = A := w64 (by omega) (by omega)
      have e2 : IntKind.u64.wrap B = B := w64 (by omega) (by omega)
      have e3 : IntKind.u64.wrap E = E := w64 (by omega) (by omega)
      have e4 : IntKind.u64.wrap M = M := w64 (by omega) (by omega)
      have e5 : IntKind.u64.wrap (c + M) = c + M := w64 (by omega) (by omega)
      have e6 : IntKind.u64.wrap (c + M + E) = c + M + E := w64 (by omega) (by omega)
      have e7 : IntKind.i64.wrap ((k : Int) + 1) = ((k + 1 : Nat) : Int) := by rw [wi (by omega) (by omega)]; omega
      have d1 : IntKind.u64.wrap ((c + M + E) / 4294967296) = (c + M + E) / 4294967296 := w64 (by omega) (by omega)
      have m1 : IntKind.u32.wrap ((c + M + E) % 4294967296) = (c + M + E) % 4294967296 := w32 (by omega) (by omega)
      have t1 := tdivB (n := c + M + E) (by omega)
      have u1 := tmodB (n := c + M + E) (by omega)
      simp only [e1, e2, e3, hM, e4, e5, e6, e7, t1, u1, d1, m1]
    · right
      have hkb : k = b.length := by omega
      subst hkb
      refine ⟨((a, b, (), (i : Int), c, ()), (r', ())), ?_, c, r', rfl, hI⟩
      rw [S49_7_eq]
      simp only [decide_eq_true_eq, Int.ofNat_lt, Nat.lt_irrefl, if_false]) ((a, b, (), (i : Int), 0, ((0 : Nat) : Int), ()), (r, ())) ⟨0, 0, r, rfl, by omega, InnerOK.zero wr⟩
  exact ⟨c, r', h1, h2⟩

/-- The outer loop: a's first i limbs times b. -/
structure OuterOK (a b : List Int) (i : Nat) (r : List Int) : Prop where
  len : r.length = a.length + b.length
  wf : Wf r
  vl : val r = val (a.take i) * val b
  hi : ∀ j, i + b.length ≤ j → r.getD j 0 = 0

theorem OuterOK.zero (a b : List Int) : OuterOK a b 0 (List.replicate (a.length + b.length) 0) :=
  ⟨by simp, Wf.replicate _, by simp [val, val_replicate], fun j _ => by
    rw [List.getD_eq_getElem?_getD, List.getElem?_replicate]
    split <;> rfl⟩

theorem OuterOK.step {a b : List Int} {i : Nat} {r r' : List Int} {c : Int} (h : OuterOK a b i r) (hI : InnerOK b r i (a.getD i 0) b.length c r') (hi : i < a.length) : OuterOK a b (i + 1) (r'.set (i + b.length) c) := by
  have hl := h.len
  have hl' := hI.len
  have h0 : r'.getD (i + b.length) 0 = 0 := by rw [hI.hi _ (Nat.le_refl _), h.hi _ (Nat.le_refl _)]
  refine ⟨by simp [hl', hl], hI.wf.set _ hI.c0 hI.c1, ?_, fun j hj => ?_⟩
  · rw [val_set (by omega), h0, val_take_succ]
    have e1 := hI.vl
    have e2 := h.vl
    rw [val_take_all (Nat.le_refl _)] at e1
    grind
  · rw [getD_set, if_neg (by omega), hI.hi _ (by omega), h.hi _ (by omega)]

theorem F49_spec {a b : List Int} (wa : Wf a) (wb : Wf b) (sa : Sm a) (sb : Sm b) : F49 (F50 (limL S50_2)) (limL (S49_3 (limL S49_7))) (a, b, ()) = some ((lim (val a * val b).toNat, ()), ()) := by
  have sa' := sa
  have sb' := sb
  unfold Sm at sa sb
  obtain ⟨z, h1, r, rfl, hO⟩ := limL_ind (f := S49_3 (limL S49_7)) (fun x => a.length - x.1.2.2.2.1.toNat)
    (fun x => ∃ (i : Nat) (r : List Int), x = ((a, b, (), (i : Int), ()), (r, ())) ∧ i ≤ a.length ∧ OuterOK a b i r)
    (fun z => ∃ r : List Int, z = (((), ()), (r, ())) ∧ OuterOK a b a.length r) (by
    rintro x ⟨i, r, rfl, hi, hO⟩
    by_cases hd : i < a.length
    · left
      obtain ⟨c, r', q1, q2⟩ := S49_7_spec wa wb sa' sb' hO.wf hO.len hd
      refine ⟨_, ?_, ⟨i + 1, _, rfl, by omega, hO.step q2 hd⟩, by simp only [Int.toNat_natCast]; omega⟩
      have hl := hO.len
      have hl' := q2.len
      have hc := q2.c0
      have hc1 := q2.c1
      rw [S49_3_eq]
      simp only [decide_eq_true_eq, Int.ofNat_lt, hd, if_true]
      rw [q1]
      have e0 : IntKind.i64.wrap ((i : Int) + (b.length : Int)) = ((i + b.length : Nat) : Int) := by rw [wi (by omega) (by omega)]; omega
      have e7 : IntKind.i64.wrap ((i : Int) + 1) = ((i + 1 : Nat) : Int) := by rw [wi (by omega) (by omega)]; omega
      have m1 : IntKind.u32.wrap c = c := w32 (by omega) (by omega)
      simp only [Option.bind_some, e0, e7, m1, Int.toNat_natCast]
      rw [if_pos (by omega), if_pos (by omega)]
    · right
      have hia : i = a.length := by omega
      subst hia
      refine ⟨(((), ()), (r, ())), ?_, r, rfl, hO⟩
      rw [S49_3_eq]
      simp only [decide_eq_true_eq, Int.ofNat_lt, Nat.lt_irrefl, if_false]) ((a, b, (), ((0 : Nat) : Int), ()), (List.replicate (a.length + b.length) 0, ())) ⟨0, _, rfl, by omega, OuterOK.zero a b⟩
  have hw : IntKind.i64.wrap ((a.length : Int) + (b.length : Int)) = ((a.length + b.length : Nat) : Int) := by rw [wi (by omega) (by omega)]; omega
  rw [F49_eq]
  simp only [hw, Int.toNat_natCast]
  rw [if_pos (by omega), if_pos (by omega), if_pos (by omega)]
  rw [show limL (S49_3 (limL S49_7)) ((a, b, (), 0, ()), List.replicate (a.length + b.length) 0, ()) = _ from h1]
  show ((F50 (limL S50_2) (r, ())).bind fun y => some ((y.1.1, ()), ())) = _
  have hl := hO.len
  have hv := hO.vl
  rw [val_take_all (Nat.le_refl _)] at hv
  rw [F50_spec hO.wf (by omega), hv]
  rfl

/-! ### The program's product -/
theorem S57_7_spec {a b r : List Int} {i : Nat} {t18 : List Int} {t19 t20 : Int} (wa : Wf a) (wb : Wf b) (sa : Sm a) (sb : Sm b) (wr : Wf r) (hr : r.length = a.length + b.length) (hi : i < a.length) :
    ∃ c r', limL S57_7 ((b, (), (i : Int), a.getD i 0, 0, t18, t19, t20, b, (b.length : Int), 0, ()), (r, ())) = some ((b, (), (i : Int), c, t18, t19, t20, ()), (r', ())) ∧ InnerOK b r i (a.getD i 0) b.length c r' := by
  unfold Sm at sa sb
  have xa := wa.getD i
  obtain ⟨z, h1, c, r', rfl, h2⟩ := limL_ind (f := S57_7) (fun x => b.length - x.1.2.2.2.2.2.2.2.2.2.2.1.toNat)
    (fun x => ∃ (c : Int) (k : Nat) (r' : List Int), x = ((b, (), (i : Int), a.getD i 0, c, t18, t19, t20, b, (b.length : Int), (k : Int), ()), (r', ())) ∧ k ≤ b.length ∧ InnerOK b r i (a.getD i 0) k c r')
    (fun z => ∃ (c : Int) (r' : List Int), z = ((b, (), (i : Int), c, t18, t19, t20, ()), (r', ())) ∧ InnerOK b r i (a.getD i 0) b.length c r') (by
    rintro x ⟨c, k, r', rfl, hk, hI⟩
    by_cases hd : k < b.length
    · left
      have hst := hI.step wb xa.1 xa.2 (by omega)
      refine ⟨_, ?_, ⟨_, k + 1, _, rfl, by omega, hst⟩, by simp only [Int.toNat_natCast]; omega⟩
      have xb := wb.getD k
      have xr := hI.wf.getD (i + k)
      have hb := mul_bound hI.c0 hI.c1 xa.1 xa.2 xb.1 xb.2 xr.1 xr.2
      have hl := hI.len
      have hc := hI.c0
      have hc1 := hI.c1
      rw [S57_7_eq]
      have e0 : IntKind.i64.wrap ((i : Int) + (k : Int)) = ((i + k : Nat) : Int) := by rw [wi (by omega) (by omega)]; omega
      simp only [e0, Int.toNat_natCast, decide_eq_true_eq, Int.ofNat_lt]
      have q1 : i + k < r'.length := by omega
      have p2 : (0 : Int) ≤ (k : Int) := by omega
      have p3 : (0 : Int) ≤ ((i + k : Nat) : Int) := by omega
      simp only [hd, q1, p2, p3, if_true]
      generalize a.getD i 0 = A at *
      generalize b.getD k 0 = B at *
      generalize r'.getD (i + k) 0 = E at *
      obtain ⟨b1, b2, b3, b4⟩ := hb
      generalize hM : A * B = M at *
      have e1 : IntKind.u64.wrap A = A := w64 (by omega) (by omega)
      have e2 : IntKind.u64.wrap B = B := w64 (by omega) (by omega)
      have e3 : IntKind.u64.wrap E = E := w64 (by omega) (by omega)
      have e4 : IntKind.u64.wrap M = M := w64 (by omega) (by omega)
      have e5 : IntKind.u64.wrap (M + E) = M + E := w64 (by omega) (by omega)
      have e6 : IntKind.u64.wrap (M + E + c) = c + M + E := by rw [w64 (by omega) (by omega)]; omega
      have e7 : IntKind.i64.wrap ((k : Int) + 1) = ((k + 1 : Nat) : Int) := by rw [wi (by omega) (by omega)]; omega
      have f1 : (c + M + E).fdiv (2 ^ 32) = (c + M + E) / 4294967296 := by rw [Int.fdiv_eq_ediv_of_nonneg _ (by decide)]; rfl
      simp only [e1, e2, e3, hM, e4, e5, e6, e7, f1, w32m]
    · right
      have hkb : k = b.length := by omega
      subst hkb
      refine ⟨((b, (), (i : Int), c, t18, t19, t20, ()), (r', ())), ?_, c, r', rfl, hI⟩
      rw [S57_7_eq]
      simp only [decide_eq_true_eq, Int.ofNat_lt, Nat.lt_irrefl, if_false]) ((b, (), (i : Int), a.getD i 0, 0, t18, t19, t20, b, (b.length : Int), ((0 : Nat) : Int), ()), (r, ())) ⟨0, 0, r, rfl, by omega, InnerOK.zero wr⟩
  exact ⟨c, r', h1, h2⟩

theorem F57_spec {a b : List Int} (wa : Wf a) (wb : Wf b) (sa : Sm a) (sb : Sm b) : F57 (F96 (limL S96_2)) (limL (S57_3 (limL S57_7))) (a, b, ()) = some ((lim (val a * val b).toNat, ()), ()) := by
  have sa' := sa
  have sb' := sb
  unfold Sm at sa sb
  obtain ⟨z, h1, r, rfl, hO⟩ := limL_ind (f := S57_3 (limL S57_7)) (fun x => a.length - x.1.2.2.2.2.1.toNat)
    (fun x => ∃ (i : Nat) (r : List Int), x = ((b, (), a, (a.length : Int), (i : Int), ()), (r, ())) ∧ i ≤ a.length ∧ OuterOK a b i r)
    (fun z => ∃ r : List Int, z = (((), ()), (r, ())) ∧ OuterOK a b a.length r) (by
    rintro x ⟨i, r, rfl, hi, hO⟩
    by_cases hd : i < a.length
    · left
      obtain ⟨c, r', q1, q2⟩ := S57_7_spec (t18 := a) (t19 := (a.length : Int)) (t20 := (i : Int)) wa wb sa' sb' hO.wf hO.len hd
      refine ⟨_, ?_, ⟨i + 1, _, rfl, by omega, hO.step q2 hd⟩, by simp only [Int.toNat_natCast]; omega⟩
      have hl := hO.len
      have hl' := q2.len
      have hc := q2.c0
      have hc1 := q2.c1
      rw [S57_3_eq]
      simp only [decide_eq_true_eq, Int.ofNat_lt, hd, if_true, Int.toNat_natCast, show (0 : Int) ≤ (i : Int) by omega]
      rw [q1]
      have e0 : IntKind.i64.wrap ((i : Int) + (b.length : Int)) = ((i + b.length : Nat) : Int) := by rw [wi (by omega) (by omega)]; omega
      have e7 : IntKind.i64.wrap ((i : Int) + 1) = ((i + 1 : Nat) : Int) := by rw [wi (by omega) (by omega)]; omega
      have m1 : IntKind.u32.wrap c = c := w32 (by omega) (by omega)
      have h0 : r'.getD (i + b.length) 0 = 0 := by rw [q2.hi _ (Nat.le_refl _), hO.hi _ (Nat.le_refl _)]
      simp only [Option.bind_some, e0, e7, m1, Int.toNat_natCast]
      rw [if_pos (by omega), if_pos (by omega), if_pos (by omega), if_pos (by omega), h0, Int.zero_add, m1]
    · right
      have hia : i = a.length := by omega
      subst hia
      refine ⟨(((), ()), (r, ())), ?_, r, rfl, hO⟩
      rw [S57_3_eq]
      simp only [decide_eq_true_eq, Int.ofNat_lt, Nat.lt_irrefl, if_false]) ((b, (), a, (a.length : Int), ((0 : Nat) : Int), ()), (List.replicate (a.length + b.length) 0, ())) ⟨0, _, rfl, by omega, OuterOK.zero a b⟩
  have hw : IntKind.i64.wrap ((a.length : Int) + (b.length : Int)) = ((a.length + b.length : Nat) : Int) := by rw [wi (by omega) (by omega)]; omega
  rw [F57_eq]
  simp only [hw, Int.toNat_natCast]
  rw [if_pos (by omega), if_pos (by omega), if_pos (by omega)]
  rw [show limL (S57_3 (limL S57_7)) ((b, (), a, (a.length : Int), 0, ()), List.replicate (a.length + b.length) 0, ()) = _ from h1]
  show ((F96 (limL S96_2) (r, ())).bind fun y => some ((y.1.1, ()), ())) = _
  have hl := hO.len
  have hv := hO.vl
  rw [val_take_all (Nat.le_refl _)] at hv
  rw [F96_spec hO.wf (by omega), hv]
  rfl
end Go.Proofs.Rf
