/- Rf, part C: putting together: loops by whatever stands for them. -/
import Derived.Test.YtgkgjgcoalmldaaGb
namespace Go.Proofs.Rf
open Go Go.RowKit

/-- What stands for a loop comes to what some number of rounds comes to. -/
def Lim {A B : Type} (f : A → Option (A ⊕ B)) (g : A → Option B) : Prop := ∀ x y, g x = some y → ∃ k, iterL f k x = some y

theorem lim_limL {A B : Type} (f : A → Option (A ⊕ B)) : Lim f (limL f) := fun _ _ h => limL_inv h
theorem lim_iterL {A B : Type} (f : A → Option (A ⊕ B)) (k : Nat) : Lim f (iterL f k) := fun _ _ h => ⟨k, h⟩

theorem stepLim_ok {P : Program} {TT : Tab} (hm : P.follows .mixedOrders = true) (hP : TabOK P TT) {Δ : List (Nat × CallO)} (hΔ : AllCalls P Δ) {Λ : List (Nat × LoopO)} {fn : Func} {r : Nat} {head : Shape} {ways : List Way} {ok : Nat → Bool} {inn : Bool}
    {g : head.den → Option (denX ways)} (hg : Lim (stepFn TT Δ Λ ok fn r head ways) g) (hL : LoopsAt P ok inn Λ (loopOf fn r)) : LoopAt P ok inn (lp head ways g) (.loop (loopOf fn r)) := by
  intro n hn ρ hi
  subst hn
  exact lp_ok hm hP (callsOK_of hΔ) (hL n rfl ρ hi) fun x y h => hg x y h

/-- The loop over a function whose first region is r. -/
def findG (r : Nat) : Code → Option Code
  | .seq a b => match findG r a with
    | some c => some c
    | none => findG r b
  | .cond _ a b => match findG r a with
    | some c => some c
    | none => findG r b
  | .block _ c => findG r c
  | .scope c => findG r c
  | .loop c => findG r c
  | .rangeFunc g ps a b => if Nat.beq (firstReg a) r = true then some (.rangeFunc g ps a b) else findG r b
  | _ => none

def rgG (f : Func) (r : Nat) : Operand := match findG r (bodyOf f) with
  | some (.rangeFunc g _ _ _) => g
  | _ => .tmp 0
def rgP (f : Func) (r : Nat) : Array Nat := match findG r (bodyOf f) with
  | some (.rangeFunc _ ps _ _) => ps
  | _ => #[]
def rgA (f : Func) (r : Nat) : Code := match findG r (bodyOf f) with
  | some (.rangeFunc _ _ a _) => a
  | _ => .skip
def rgB (f : Func) (r : Nat) : Code := match findG r (bodyOf f) with
  | some (.rangeFunc _ _ _ b) => b
  | _ => .skip

/-- A round of a loop over a function. -/
noncomputable def roundFn (TT : Tab) (Δ : List (Nat × CallO)) (Λ : List (Nat × LoopO)) (ok : Nat → Bool) (f : Func) (r : Nat) {El : Type} (avs : El → List AV) (asl : List (Nat × Nat)) (head : Shape) (ways : List Way) (e : El) (x : head.den) : Option (head.den ⊕ denX ways) :=
  stepR TT (lookL Δ) (roundOk ok (slotsOf head.sl ++ slotsX ways)) (lookL Λ) avs (rgP f r).toList asl head ways (rgB f r) e x

theorem roundFn_ok {P : Program} {TT : Tab} (hm : P.follows .mixedOrders = true) (hP : TabOK P TT) {Δ : List (Nat × CallO)} (hΔ : AllCalls P Δ) {Λ : List (Nat × LoopO)} {fn : Func} {r : Nat} {El : Type} {avs : El → List AV} {encs : El → List Value} {gf : Nat} {cap : (Nat → Blk) → List AV → Option (List El)}
    {asl : List (Nat × Nat)} {head : Shape} {ways : List Way} {ok : Nat → Bool} (hI : IterOK P gf encs cap) (hT : RangeText ok avs encs (rgP fn r) (rgA fn r) asl head ways) (hL : LoopsAt P (roundOk ok (slotsOf head.sl ++ slotsX ways)) true Λ (rgB fn r)) :
    LoopAt P ok false (rangeO (rgG fn r) gf cap head ways (foldR (roundFn TT Δ Λ ok fn r avs asl head ways))) (.rangeFunc (rgG fn r) (rgP fn r) (rgA fn r) (rgB fn r)) :=
  rangeO_ok hm hP (callsOK_of hΔ) hI hT hL fun _ _ _ h => h
end Go.Proofs.Rf
