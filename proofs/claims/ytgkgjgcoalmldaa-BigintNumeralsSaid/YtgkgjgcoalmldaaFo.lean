/- Rf, part o: the law of regions that draw their order. -/
import Derived.Test.YtgkgjgcoalmldaaFn
namespace Go.Proofs.Rf
open Go Go.RowKit

/-! ### What waits for what -/
theorem predsOf_bit {acc : List Nat} {j : Nat} : ∀ (es : List Edge), (predsOf acc es).testBit j = true ↔ ∃ e ∈ es, Region.binds .any e = true ∧ (e.on = j ∨ (acc.getD e.on 0).testBit j = true)
  | [] => by simp [predsOf]
  | e :: r => by
    have ih := predsOf_bit (acc := acc) (j := j) r
    unfold predsOf
    by_cases hb : Region.binds .any e = true
    · rw [if_pos hb, Nat.testBit_or, Nat.testBit_or, Bool.or_eq_true, Bool.or_eq_true, ih, Nat.testBit_two_pow]
      constructor
      · rintro ((⟨e', h1, h2⟩ | h) | h)
        · exact ⟨e', List.mem_cons_of_mem _ h1, h2⟩
        · exact ⟨e, List.mem_cons_self .., hb, .inl (by simpa using h)⟩
        · exact ⟨e, List.mem_cons_self .., hb, .inr h⟩
      · rintro ⟨e', h1, h2, h3⟩
        rcases List.mem_cons.1 h1 with rfl | h1
        · rcases h3 with h3 | h3
          · exact .inl (.inr (by simpa using h3))
          · exact .inr h3
        · exact .inl (.inl ⟨e', h1, h2, h3⟩)
    · rw [if_neg hb, ih]
      constructor
      · rintro ⟨e', h1, h2⟩
        exact ⟨e', List.mem_cons_of_mem _ h1, h2⟩
      · rintro ⟨e', h1, h2, h3⟩
        rcases List.mem_cons.1 h1 with rfl | h1
        · exact absurd h2 hb
        · exact ⟨e', h1, h2, h3⟩

theorem masks_prefix : ∀ (l : List Oper) (acc : List Nat), ∃ r, masks l acc = acc ++ r ∧ r.length = l.length
  | [], acc => ⟨[], by simp [masks], rfl⟩
  | o :: l, acc => by
    obtain ⟨r, h1, h2⟩ := masks_prefix l (acc ++ [predsOf acc o.after.toList])
    exact ⟨predsOf acc o.after.toList :: r, by rw [masks, h1]; simp, by simp [h2]⟩

theorem masks_at : ∀ (l : List Oper) (acc : List Nat) (k : Nat) (o : Oper), l[k]? = some o → (masks l acc).getD (acc.length + k) 0 = predsOf ((masks l acc).take (acc.length + k)) o.after.toList
  | [], _, k, _, h => by simp at h
  | o' :: l, acc, 0, o, h => by
    simp only [List.getElem?_cons_zero, Option.some.injEq] at h
    subst h
    obtain ⟨r, h1, _⟩ := masks_prefix l (acc ++ [predsOf acc o'.after.toList])
    rw [masks, h1, Nat.add_zero, List.append_assoc]
    simp
  | o' :: l, acc, k + 1, o, h => by
    have := masks_at l (acc ++ [predsOf acc o'.after.toList]) k o (by simpa using h)
    rw [List.length_append, List.length_singleton, Nat.add_assoc, Nat.add_comm 1 k] at this
    exact this

/-- d waits for j. -/
def PB (ops : Array Oper) (d j : Nat) : Prop := ((masks ops.toList []).getD d 0).testBit j = true

theorem edgesOk_at : ∀ (l : List Oper) (i k : Nat) (o : Oper), edgesOk i l = true → l[k]? = some o → ∀ e ∈ o.after.toList, Region.binds .any e = true → e.on < i + k
  | [], _, _, _, _, h, _, _, _ => by simp at h
  | o' :: l, i, 0, o, he, h, e, hm, hb => by
    simp only [List.getElem?_cons_zero, Option.some.injEq] at h
    subst h
    simp only [edgesOk, Bool.and_eq_true, List.all_eq_true] at he
    have := he.1 e hm
    simp only [hb, Bool.not_true, Bool.false_or] at this
    exact Nat.le_of_ble_eq_true this
  | o' :: l, i, k + 1, o, he, h, e, hm, hb => by
    simp only [edgesOk, Bool.and_eq_true] at he
    have := edgesOk_at l (i + 1) k o he.2 (by simpa using h) e hm hb
    omega

section
variable {ops : Array Oper} (hE : edgesOk 0 ops.toList = true)
include hE

theorem PB_iff {d : Nat} {o : Oper} (ho : ops[d]? = some o) (j : Nat) : PB ops d j ↔ ∃ e ∈ o.after.toList, Region.binds .any e = true ∧ (e.on = j ∨ PB ops e.on j) := by
  have ho' : ops.toList[d]? = some o := by rw [Array.getElem?_toList]; exact ho
  unfold PB
  have h1 := masks_at ops.toList [] d o ho'
  simp only [List.length_nil, Nat.zero_add] at h1
  rw [h1, predsOf_bit]
  constructor
  · rintro ⟨e, h2, h3, h4⟩
    have hlt := edgesOk_at ops.toList 0 d o hE ho' e h2 h3
    refine ⟨e, h2, h3, h4.imp id fun h => ?_⟩
    rwa [List.getD_eq_getElem?_getD, List.getElem?_take, if_pos (by omega), ← List.getD_eq_getElem?_getD] at h
  · rintro ⟨e, h2, h3, h4⟩
    have hlt := edgesOk_at ops.toList 0 d o hE ho' e h2 h3
    refine ⟨e, h2, h3, h4.imp id fun h => ?_⟩
    rwa [List.getD_eq_getElem?_getD, List.getElem?_take, if_pos (by omega), ← List.getD_eq_getElem?_getD]

theorem PB_lt : ∀ (m d j : Nat), d ≤ m → PB ops d j → j < d
  | m, d, j, hm, h => by
    by_cases hd : d < ops.size
    · obtain ⟨o, ho⟩ : ∃ o, ops[d]? = some o := ⟨ops[d], Array.getElem?_eq_getElem hd⟩
      obtain ⟨e, h1, h2, h3⟩ := (PB_iff hE ho j).1 h
      have hlt := edgesOk_at ops.toList 0 d o hE (by rw [Array.getElem?_toList]; exact ho) e h1 h2
      rcases h3 with rfl | h3
      · omega
      · cases m with
        | zero => omega
        | succ m =>
          have := PB_lt m e.on j (by omega) h3
          omega
    · unfold PB at h
      obtain ⟨r, h1, h2⟩ := masks_prefix ops.toList []
      rw [List.getD_eq_getElem?_getD, List.getElem?_eq_none (by rw [h1]; simp [h2]; omega)] at h
      simp at h
end

/-- What is listed is shut: with an operation, all that it waits for. -/
def Shut (ops : Array Oper) (S : Nat → Bool) : Prop := ∀ d j, S d = true → PB ops d j → S j = true

theorem logOk1_at {B : List Nat} {a : LogE} : ∀ {l : List LogE}, logOk1 B a l = true → ∀ b ∈ l, apartL a b = true ∨ waits B a.i b.i = true
  | [], _, b, h => by simp at h
  | c :: r, hl, b, h => by
    simp only [logOk1, Bool.and_eq_true, Bool.or_eq_true] at hl
    rcases List.mem_cons.1 h with rfl | h
    · exact hl.1
    · exact logOk1_at hl.2 b h

theorem meetN_false {l m : List Nat} (h : meetN l m = false) : ∀ k ∈ l, k ∉ m := by
  induction l with
  | nil => simp
  | cons j r ih =>
    simp only [meetN, Bool.or_eq_false_iff] at h
    intro k hk
    rcases List.mem_cons.1 hk with rfl | hk
    · intro hm
      rw [memN_iff.2 hm] at h
      cases h.1
    · exact ih h.2 k hk

theorem apartL_symm {a b : LogE} (h : apartL a b = true) : apartL b a = true := by
  unfold apartL at h ⊢
  rw [Bool.and_comm]
  exact h

theorem waits_symm {B : List Nat} {i j : Nat} (h : waits B i j = true) : waits B j i = true := by
  unfold waits at h ⊢
  rw [Bool.or_comm]
  exact h

theorem logOk_at {B : List Nat} : ∀ {l : List LogE}, logOk B l = true → (∀ a ∈ l, subN a.wr a.touch = true) ∧ ∀ a ∈ l, ∀ b ∈ l, a = b ∨ apartL a b = true ∨ waits B a.i b.i = true
  | [], _ => by simp
  | c :: r, h => by
    simp only [logOk, Bool.and_eq_true] at h
    obtain ⟨h1, h2⟩ := logOk_at h.2
    refine ⟨fun a ha => ?_, fun a ha b hb => ?_⟩
    · rcases List.mem_cons.1 ha with rfl | ha
      · exact h.1.1
      · exact h1 a ha
    · rcases List.mem_cons.1 ha with rfl | ha' <;> rcases List.mem_cons.1 hb with rfl | hb'
      · exact .inl rfl
      · exact .inr (logOk1_at h.1.2 b hb')
      · exact .inr ((logOk1_at h.1.2 a ha').imp apartL_symm waits_symm)
      · exact h2 a ha' b hb'

theorem subN_iff : ∀ {l m : List Nat}, subN l m = true → ∀ k ∈ l, k ∈ m
  | [], _, _, k, h => by simp at h
  | j :: r, m, hs, k, h => by
    simp only [subN, Bool.and_eq_true] at hs
    rcases List.mem_cons.1 h with rfl | h
    · exact memN_iff.1 hs.1
    · exact subN_iff hs.2 k h

theorem mem_rangeN : ∀ {m a k : Nat}, k ∈ rangeN a m ↔ a ≤ k ∧ k < a + m
  | 0, a, k => by simp [rangeN]
  | m + 1, a, k => by
    simp only [rangeN, List.mem_cons, mem_rangeN (m := m)]
    omega

theorem mem_logsOf {x : Ent} : ∀ {es : List Ent}, x ∈ es → x.skip = false → x.log ∈ logsOf es
  | [], h, _ => by simp at h
  | y :: r, h, hs => by
    unfold logsOf
    rcases List.mem_cons.1 h with rfl | h
    · rw [if_neg (by simp [hs])]
      exact List.mem_append_right _ (List.mem_singleton.2 rfl)
    · split
      · exact mem_logsOf h hs
      · exact List.mem_append_left _ (mem_logsOf h hs)

theorem tmpsOk1_at {ops : Array Oper} {B : List Nat} {i : Nat} {x : Oper} : ∀ (l : List Oper) (j k : Nat) (y : Oper), tmpsOk1 ops B i x j l = true → l[k]? = some y → waits B i (j + k) = true ∨ x.apart ops y = true
  | [], _, _, _, _, h => by simp at h
  | y' :: l, j, 0, y, ht, h => by
    simp only [List.getElem?_cons_zero, Option.some.injEq] at h
    subst h
    simp only [tmpsOk1, Bool.and_eq_true, Bool.or_eq_true] at ht
    exact ht.1
  | y' :: l, j, k + 1, y, ht, h => by
    simp only [tmpsOk1, Bool.and_eq_true] at ht
    have := tmpsOk1_at l (j + 1) k y ht.2 (by simpa using h)
    rwa [show j + (k + 1) = j + 1 + k by omega]

theorem tmpsOk_at {ops : Array Oper} {B : List Nat} : ∀ (l : List Oper) (i k k' : Nat) (x y : Oper), tmpsOk ops B i l = true → k < k' → l[k]? = some x → l[k']? = some y → waits B (i + k) (i + k') = true ∨ x.apart ops y = true
  | [], _, _, _, _, _, _, _, h, _ => by simp at h
  | x' :: l, i, 0, k', x, y, ht, hlt, hx, hy => by
    simp only [List.getElem?_cons_zero, Option.some.injEq] at hx
    subst hx
    simp only [tmpsOk, Bool.and_eq_true] at ht
    obtain ⟨m, rfl⟩ : ∃ m, k' = m + 1 := ⟨k' - 1, by omega⟩
    have := tmpsOk1_at l (i + 1) m y ht.1 (by simpa using hy)
    rwa [Nat.add_zero, show i + (m + 1) = i + 1 + m by omega]
  | x' :: l, i, k + 1, k', x, y, ht, hlt, hx, hy => by
    simp only [tmpsOk, Bool.and_eq_true] at ht
    obtain ⟨m, rfl⟩ : ∃ m, k' = m + 1 := ⟨k' - 1, by omega⟩
    have := tmpsOk_at l (i + 1) k m x y ht.2 (by omega) (by simpa using hx) (by simpa using hy)
    rwa [show i + (k + 1) = i + 1 + k by omega, show i + (m + 1) = i + 1 + m by omega]

/-- Of two operations that don't wait for each other none writes what the other looks at. -/
theorem apart_both {ops : Array Oper} {x y : Oper} (h : x.apart ops y = true ∨ y.apart ops x = true) : ∀ d, x.dst = some d → d ∉ y.looksAt ops ∧ y.dst ≠ some d := by
  intro d hd
  rcases h with h | h
  · obtain ⟨h1, h2, h3⟩ := Oper.apart_spec h
    exact ⟨h1 d hd, h2 d hd⟩
  · obtain ⟨h1, h2, h3⟩ := Oper.apart_spec h
    exact ⟨h3 d hd, fun e => h2 d e hd⟩

theorem mem_opTmps {t : Nat} : ∀ {l : List Operand}, t ∈ opTmps l → Operand.tmp t ∈ l
  | [], h => by simp [opTmps] at h
  | .tmp u :: r, h => by
    simp only [opTmps, List.mem_cons] at h
    rcases h with rfl | h
    · exact List.mem_cons_self ..
    · exact List.mem_cons_of_mem _ (mem_opTmps h)
  | .const _ :: r, h => List.mem_cons_of_mem _ (mem_opTmps (l := r) h)
  | .global _ :: r, h => List.mem_cons_of_mem _ (mem_opTmps (l := r) h)
  | .func _ :: r, h => List.mem_cons_of_mem _ (mem_opTmps (l := r) h)

theorem looks_op {ops : Array Oper} {o : Oper} {t : Nat} (h : t ∈ opTmps o.op.operands.toList) : t ∈ o.looksAt ops := by
  unfold Oper.looksAt
  exact List.mem_append_left _ (List.mem_filterMap.2 ⟨.tmp t, mem_opTmps h, rfl⟩)

theorem looks_guard {ops : Array Oper} {o : Oper} {j g : Nat} {want : Bool} (h : o.guard = some (j, want)) (hg : (ops[j]?).bind (·.dst) = some g) : g ∈ o.looksAt ops := by
  unfold Oper.looksAt
  rw [h]
  exact List.mem_append_right _ (by simp [hg])
end Go.Proofs.Rf
