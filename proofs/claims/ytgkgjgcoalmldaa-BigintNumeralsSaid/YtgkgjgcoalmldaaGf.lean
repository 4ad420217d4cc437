/- Rf, part G: putting together: iterators by whatever stands for their elements. -/
import Derived.Test.YtgkgjgcoalmldaaGe
namespace Go.Proofs.Rf
open Go Go.RowKit

/-- What stands for the elements comes to what some number of rounds comes to. -/
def Coll {A B El : Type} (start : A → Option B) (f : B → Option (RY B El)) (D : A → Option (List El)) : Prop := ∀ x xs, D x = some xs → ∃ x0 k, start x = some x0 ∧ colY f k x0 = some xs

/-- So many rounds at most. -/
def colK {A B El : Type} (start : A → Option B) (f : B → Option (RY B El)) (k : Nat) (x : A) : Option (List El) := (start x).bind (colY f k)

theorem coll_colK {A B El : Type} (start : A → Option B) (f : B → Option (RY B El)) (k : Nat) : Coll start f (colK start f k) := by
  intro x xs h
  obtain ⟨x0, h1, h2⟩ := bind_some' h
  exact ⟨x0, k, h1, h2⟩

open Classical in
/-- As many rounds as it takes. -/
noncomputable def colLim {A B El : Type} (start : A → Option B) (f : B → Option (RY B El)) (x : A) : Option (List El) := if h : ∃ xs k, colK start f k x = some xs then some h.choose else none

theorem coll_colLim {A B El : Type} (start : A → Option B) (f : B → Option (RY B El)) : Coll start f (colLim start f) := by
  intro x xs h
  unfold colLim at h
  split at h
  · rename_i hex
    injection h with h
    obtain ⟨k, hk⟩ := hex.choose_spec
    rw [h] at hk
    exact coll_colK start f k x xs hk
  · cases h

theorem colY_mono {A El : Type} {f : A → Option (RY A El)} : ∀ (k m : Nat) (x : A) (xs : List El), k ≤ m → colY f k x = some xs → colY f m x = some xs
  | 0, _, _, _, _, h => by cases h
  | k + 1, 0, _, _, hm, _ => by omega
  | k + 1, m + 1, x, xs, hm, h => by
    simp only [colY] at h ⊢
    split at h
    · exact colY_mono k m _ _ (by omega) h
    · exact h
    · split at h
      · rename_i r hr
        rw [colY_mono k m _ _ (by omega) hr]
        exact h
      · cases h
    · cases h

theorem colLim_some {A B El : Type} {start : A → Option B} {f : B → Option (RY B El)} {x : A} {xs : List El} (k : Nat) (h : colK start f k x = some xs) : colLim start f x = some xs := by
  unfold colLim
  have hex : ∃ xs k, colK start f k x = some xs := ⟨xs, k, h⟩
  rw [dif_pos hex]
  obtain ⟨m, hm⟩ := hex.choose_spec
  unfold colK at h hm
  obtain ⟨x0, h1, h2⟩ := bind_some' h
  obtain ⟨x1, h3, h4⟩ := bind_some' hm
  rw [h1] at h3
  injection h3 with h3
  subst h3
  have q1 := colY_mono k (max k m) _ _ (Nat.le_max_left ..) h2
  have q2 := colY_mono m (max k m) _ _ (Nat.le_max_right ..) h4
  rw [q1] at q2
  exact q2.symm

def preOf (f : Func) : Code := match bodyOf f with
  | .seq p _ => p
  | _ => .skip

theorem iterOK_at {P : Program} {TT : Tab} {El : Type} (hm : P.follows .mixedOrders = true) (hP : TabOK P TT) {Δ : List (Nat × CallO)} (hΔ : AllCalls P Δ) {Λ : List (Nat × LoopO)} {f : Nat} {fn : Func} {m : Nat} {pre : Option Code} {id : Nat} {c : Code} {psh head mid : Shape} {encs : El → List Value} {elOf : List AV → Option El} {rid j : Nat}
    (hT : IterText P f fn m pre id c psh head mid) (hel : ∀ args e w ok ι vals, elOf args = some e → RelL w ok ι args vals → vals = encs e)
    (hL : LoopsAt P (roundOk (upTo fn.ntmps) (rangeN 0 (m + 1))) true Λ c) (hLp : ∀ p, pre = some p → LoopsAt P (roundOk (upTo fn.ntmps) (rangeN 0 (m + 1))) true Λ p) {D : psh.den → Option (List El)}
    (hD : Coll (startY TT (lookL Δ) (roundOk (upTo fn.ntmps) (rangeN 0 (m + 1))) (lookL Λ) pre head psh) (stepY TT (lookL Δ) (roundOk (upTo fn.ntmps) (rangeN 0 (m + 1))) (lookL Λ) rid j mid head elOf id c) D) : IterOK P f encs (capG psh D) :=
  iterOK_of hm hP (callsOK_of hΔ) hT hel (fun n hn => ⟨hL n hn none (.inl rfl), fun p hp => hLp p hp n hn none (.inl rfl)⟩) hD
end Go.Proofs.Rf
