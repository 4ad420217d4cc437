/- Limbs: numbers as lists of limbs; the canonical list. -/
import Derived.Test.YtgkgjgcoalmldaaGf
namespace Go.Proofs.Rf
open Go

/-- Loops: what holds at the head, and becomes smaller. -/
theorem limL_ind {A B : Type} {f : A → Option (A ⊕ B)} (μ : A → Nat) (I : A → Prop) (Q : B → Prop) (h : ∀ x, I x → (∃ y, f x = some (.inl y) ∧ I y ∧ μ y < μ x) ∨ ∃ z, f x = some (.inr z) ∧ Q z) : ∀ x, I x → ∃ z, limL f x = some z ∧ Q z := by
  have key : ∀ n x, μ x = n → I x → ∃ z, limL f x = some z ∧ Q z := by
    intro n
    induction n using Nat.strongRecOn with
    | _ n ih =>
      intro x hx hI
      rw [limL_eq]
      rcases h x hI with ⟨y, h1, h2, h3⟩ | ⟨z, h1, h2⟩
      · rw [h1]
        exact ih (μ y) (by omega) y rfl h2
      · rw [h1]
        exact ⟨z, rfl, h2⟩
  exact fun x hI => key _ x rfl hI

theorem w64 {n : Int} (h0 : 0 ≤ n) (h1 : n < 18446744073709551616) : IntKind.u64.wrap n = n := by
  simp [IntKind.wrap, IntKind.bits, IntKind.signed]
  omega
theorem w32 {n : Int} (h0 : 0 ≤ n) (h1 : n < 4294967296) : IntKind.u32.wrap n = n := by
  simp [IntKind.wrap, IntKind.bits, IntKind.signed]
  omega
theorem w32m (n : Int) : IntKind.u32.wrap n = n % 4294967296 := by
  simp [IntKind.wrap, IntKind.bits, IntKind.signed]
theorem w8 {n : Int} (h0 : 0 ≤ n) (h1 : n < 256) : IntKind.u8.wrap n = n := by
  simp [IntKind.wrap, IntKind.bits, IntKind.signed]
  omega
theorem wi {n : Int} (h0 : -9223372036854775808 ≤ n) (h1 : n < 9223372036854775808) : IntKind.i64.wrap n = n := by
  simp [IntKind.wrap, IntKind.bits, IntKind.signed]
  omega

def val : List Int → Int
  | [] => 0
  | x :: r => x + 4294967296 * val r

def Wf (l : List Int) : Prop := ∀ x ∈ l, 0 ≤ x ∧ x < 4294967296

theorem Wf.nil : Wf [] := fun _ h => by cases h
theorem Wf.cons {x : Int} {r : List Int} (h0 : 0 ≤ x) (h1 : x < 4294967296) (h : Wf r) : Wf (x :: r) := by
  intro y hy
  rcases List.mem_cons.1 hy with rfl | hy
  · exact ⟨h0, h1⟩
  · exact h y hy
theorem Wf.head {x : Int} {r : List Int} (h : Wf (x :: r)) : 0 ≤ x ∧ x < 4294967296 := h x (List.mem_cons_self ..)
theorem Wf.tail {x : Int} {r : List Int} (h : Wf (x :: r)) : Wf r := fun y hy => h y (List.mem_cons_of_mem _ hy)
theorem Wf.append {a b : List Int} (h : Wf a) (k : Wf b) : Wf (a ++ b) := fun x hx => (List.mem_append.1 hx).elim (h x) (k x)
theorem Wf.take {a : List Int} (h : Wf a) (n : Nat) : Wf (a.take n) := fun x hx => h x (List.mem_of_mem_take hx)
theorem Wf.getD {a : List Int} (h : Wf a) (i : Nat) : 0 ≤ a.getD i 0 ∧ a.getD i 0 < 4294967296 := by
  rw [List.getD_eq_getElem?_getD]
  cases hi : a[i]? with
  | none => simp
  | some x => exact h x (List.mem_of_getElem? hi)
theorem Wf.set {a : List Int} (h : Wf a) (i : Nat) {x : Int} (h0 : 0 ≤ x) (h1 : x < 4294967296) : Wf (a.set i x) := by
  intro y hy
  rcases List.mem_or_eq_of_mem_set hy with hy | rfl
  · exact h y hy
  · exact ⟨h0, h1⟩
theorem Wf.replicate (n : Nat) : Wf (List.replicate n 0) := by
  intro x hx
  rw [(List.mem_replicate.1 hx).2]
  decide

theorem val_nonneg : ∀ {l : List Int}, Wf l → 0 ≤ val l
  | [], _ => Int.le_refl 0
  | x :: r, h => by
    have h1 := val_nonneg h.tail
    have h2 := h.head
    simp only [val]
    omega

theorem val_append (a b : List Int) : val (a ++ b) = val a + 4294967296 ^ a.length * val b := by
  induction a with
  | nil => simp [val]
  | cons x r ih =>
    simp only [List.cons_append, val, ih, List.length_cons, Int.pow_succ]
    rw [Int.mul_add, Int.add_assoc]
    congr 2
    rw [Int.mul_comm (4294967296 ^ r.length) 4294967296, Int.mul_assoc]

theorem val_lt {l : List Int} (h : Wf l) : val l < 4294967296 ^ l.length := by
  induction l with
  | nil => simp [val]
  | cons x r ih =>
    have h1 := ih h.tail
    have h2 := h.head
    simp only [val, List.length_cons, Int.pow_succ]
    omega

theorem val_replicate (n : Nat) : val (List.replicate n 0) = 0 := by
  induction n with
  | zero => rfl
  | succ n ih => simp [List.replicate_succ, val, ih]

/-- The canonical list. -/
def lim (n : Nat) : List Int := if h : n = 0 then [] else ((n % 4294967296 : Nat) : Int) :: lim (n / 4294967296)
decreasing_by exact Nat.div_lt_self (Nat.pos_of_ne_zero h) (by decide)

theorem lim_zero : lim 0 = [] := by rw [lim]; simp
theorem lim_pos {n : Nat} (h : n ≠ 0) : lim n = ((n % 4294967296 : Nat) : Int) :: lim (n / 4294967296) := by rw [lim, dif_neg h]

theorem val_lim (n : Nat) : val (lim n) = n := by
  induction n using Nat.strongRecOn with
  | _ n ih =>
    by_cases h : n = 0
    · subst h; rw [lim_zero]; rfl
    · rw [lim_pos h, val, ih _ (Nat.div_lt_self (Nat.pos_of_ne_zero h) (by decide))]
      omega

theorem Wf_lim (n : Nat) : Wf (lim n) := by
  induction n using Nat.strongRecOn with
  | _ n ih =>
    by_cases h : n = 0
    · subst h; rw [lim_zero]; exact Wf.nil
    · rw [lim_pos h]
      exact Wf.cons (by omega) (by omega) (ih _ (Nat.div_lt_self (Nat.pos_of_ne_zero h) (by decide)))

/-- No zero at the end. -/
def Nm : List Int → Prop
  | [] => True
  | [x] => x ≠ 0
  | _ :: r => Nm r

theorem Nm.tail {x y : Int} {r : List Int} (h : Nm (x :: y :: r)) : Nm (y :: r) := h

theorem val_pos : ∀ {l : List Int}, Wf l → Nm l → l ≠ [] → 0 < val l
  | [], _, _, h => absurd rfl h
  | [x], hw, hn, _ => by
    have := hw.head
    have hn : x ≠ 0 := hn
    simp only [val]
    omega
  | x :: y :: r, hw, hn, _ => by
    have h1 := val_pos hw.tail hn.tail (by simp)
    have h2 := hw.head
    rw [val]
    omega

theorem lim_val : ∀ {l : List Int}, Wf l → Nm l → lim (val l).toNat = l
  | [], _, _ => lim_zero
  | x :: r, hw, hn => by
    have hp := val_pos hw hn (by simp)
    have h2 := hw.head
    have h3 := val_nonneg hw.tail
    rw [lim_pos (by omega)]
    have e1 : (((val (x :: r)).toNat % 4294967296 : Nat) : Int) = x := by
      simp only [val] at hp ⊢
      omega
    have e2 : (val (x :: r)).toNat / 4294967296 = (val r).toNat := by
      simp only [val] at hp ⊢
      omega
    rw [e1, e2]
    congr 1
    cases r with
    | nil => exact lim_zero
    | cons y r => exact lim_val hw.tail hn.tail

theorem Nm_lim (n : Nat) : Nm (lim n) := by
  induction n using Nat.strongRecOn with
  | _ n ih =>
    by_cases h : n = 0
    · subst h; rw [lim_zero]; trivial
    · rw [lim_pos h]
      have hlt := Nat.div_lt_self (Nat.pos_of_ne_zero h) (show 1 < 4294967296 by decide)
      by_cases h2 : n / 4294967296 = 0
      · rw [h2, lim_zero]
        show ((n % 4294967296 : Nat) : Int) ≠ 0
        omega
      · have := ih _ hlt
        rw [lim_pos h2] at this ⊢
        exact this

/-- The list without zeros at the end is the canonical one. -/
theorem take_lim {l : List Int} (hw : Wf l) {n : Nat} (hn : n ≤ l.length) (hz : ∀ i, n ≤ i → i < l.length → l.getD i 0 = 0) (hl : 0 < n → l.getD (n - 1) 0 ≠ 0) : l.take n = lim (val l).toNat := by
  have hz2 : ∀ (r : List Int), (∀ i, i < r.length → r.getD i 0 = 0) → val r = 0 := by
    intro r
    induction r with
    | nil => intro _; rfl
    | cons x r ih =>
      intro h
      have h0 := h 0 (by simp)
      have h1 := ih fun i hi => by have := h (i + 1) (by simpa using hi); simpa using this
      simp only [List.getD_cons_zero] at h0
      simp [val, h0, h1]
  have hv : val l = val (l.take n) := by
    conv => lhs; rw [← List.take_append_drop n l]
    rw [val_append, hz2 (l.drop n) fun i hi => ?_]
    · simp
    · have := hz (n + i) (by omega) (by simp at hi; omega)
      simpa [List.getD_eq_getElem?_getD] using this
  have hNm : ∀ (r : List Int), (r ≠ [] → r.getD (r.length - 1) 0 ≠ 0) → Nm r := by
    intro r
    induction r with
    | nil => intro _; trivial
    | cons x r ih =>
      intro h
      cases r with
      | nil =>
        have := h (by simp)
        show x ≠ 0
        simpa using this
      | cons y r =>
        show Nm (y :: r)
        refine ih fun _ => ?_
        have := h (by simp)
        simpa using this
  have hn2 : Nm (l.take n) := by
    refine hNm _ fun hne => ?_
    have hlen : (l.take n).length = n := by simp; omega
    have hnp : 0 < n := by
      rcases Nat.eq_zero_or_pos n with e | e
      · subst e; exact absurd (by simp) hne
      · exact e
    rw [hlen]
    have := hl hnp
    rw [List.getD_eq_getElem?_getD] at this ⊢
    rw [List.getElem?_take_of_lt (by omega)]
    exact this
  rw [hv]
  exact (lim_val (hw.take n) hn2).symm
end Go.Proofs.Rf
